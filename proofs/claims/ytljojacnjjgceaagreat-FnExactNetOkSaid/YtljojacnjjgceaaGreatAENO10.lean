/- Part 10 of the texts behind the row. -/
import Derived.Test.YtljojacnjjgceaaGreatAENO9
set_option linter.unusedVariables false
set_option linter.unusedSimpArgs false
namespace Go.Proofs.YtljojacnjjgceaaGreat.Den
open Go Go.RowKit
theorem zxD (f:Nat) (n:Int):zS f ((n,()),()) = some ((decide (0 ≤ n ∧ n ≤ 63),()),()):=by
 unfold zS zrX
 by_cases h:0 ≤ n
 ·have e:(n < 64) ↔ (n ≤ 63):=by omega
  simp [h,e]
 ·simp [h]
theorem zvk (f:Nat) (ks:List Knot) (all:Int) (hl:ks.length < 4294967296):∀ (d i:Nat) (before sum:Int) (Z:Nat),i + d = ks.length → d < Z →
  iter (zke f) Z ((i:Int),(ks.length:Int),ks,before,sum,ks,all) = some ((okGo all (ks.drop i) before sum,()),())
 | 0,i,before,sum,Z + 1,hi,hf => by
  rw [iter]
  show zgv f _ _ = _
  unfold zgv
  have h1:¬ ((i:Int) < (ks.length:Int)):=by omega
  have h2:ks.drop i = []:=List.drop_eq_nil_of_le (by omega)
  simp [h1,h2,okGo]
 | d + 1,i,before,sum,Z + 1,hi,hf => by
  rw [iter]
  show zgv f _ _ = _
  unfold zgv
  have h1:(i:Int) < (ks.length:Int):=by omega
  have h2:(0:Int) ≤ (i:Int):=by omega
  have h3:w64 ((i:Int) + 1) = (i:Int) + 1:=by rw [w64_id] <;> omega
  have ih:∀ before sum,iter (zke f) Z ((i:Int) + 1,(ks.length:Int),ks,before,sum,ks,all) = some ((okGo all (ks.drop (i + 1)) before sum,()),()):=fun b s => by
   exact_mod_cast zvk f ks all hl d (i + 1) b s Z (by omega) (by omega)
  rw [zeN (0,0,()) (show i < ks.length by omega)]
  simp only [h1,h2,h3,zz_eq,Int.toNat_natCast,decide_true,cond_true]
  obtain ⟨k,hk⟩:∃ k:Knot,ks.getD i (0,0,()) = k:=⟨_,rfl⟩
  simp only [hk]
  unfold okGo
  by_cases c1:k.1 ≤ before
  ·simp [c1]
  by_cases c2:128 ≤ k.1
  ·simp [c1,c2]
  by_cases c3:k.2.1 < 1
  ·simp [c1,c2,c3]
  by_cases c4:2000 < k.2.1
  ·simp [c1,c2,c3,c4]
  by_cases c5:k.1 < 64
  ·by_cases c6:w64 (all.tdiv 8) < k.2.1
   ·simp [c1,c2,c3,c4,c5,c6]
   ·simp [c1,c2,c3,c4,c5,c6,ih]
  ·simp [c1,c2,c3,c4,c5,ih]
theorem zIU (f:Nat) (ks:List Knot) (all:Int) (hl:ks.length < 4294967296) (hf:ks.length < f):zgw f ((ks,all,()),()) = some ((okB ks all,()),()):=by
 unfold zgw zoh okB
 by_cases c1:all < 0
 ·simp [c1]
 by_cases c2:2000 < all
 ·simp [c1,c2]
 have:=zvk f ks all hl ks.length 0 0 0 f (by omega) hf
 simp [c1,c2,zz_eq]
 simpa using this
theorem zqq (f:Nat) (l:List Int) (hf:8 < f):zdm f ((l,()),()) = some (cond (decide (l.length = 8) && l.all rng) ((isum l,()),(decide (isum l ≤ 2000),()),()) ((0,()),(false,()),())):=by
 show zjC f (iter (zjB f) f) l = _
 unfold zjC
 by_cases h:l.length = 8
 ·have hl:l.length < 4294967296:=by omega
  have e:(zz l.length != (8:Int)) = false:=by simp [zz_eq,h]
  rw [e,cond_false,zz_eq]
  have:=zt (st:=zjB f) (enc:=fun i s => ((i:Int),(l.length:Int),l,s)) (fun x k s => cond (rng x) (k (w64 (s + x))) (some ((0,()),(false,()),()))) (fun s => some ((s,()),(decide (s ≤ 2000),()),())) l 0 ?_ ?_ f 0 (by omega)
  ·refine this.trans ?_
   have:∀ (l:List Int) (s:Int),goL (R:=((Int × Unit) × ((Bool × Unit) × Unit))) (fun x k s => cond (rng x) (k (w64 (s + x))) (some ((0,()),(false,()),()))) (fun s => some ((s,()),(decide (s ≤ 2000),()),())) l s = some (cond (l.all rng) ((l.foldl (fun s x => w64 (s + x)) s,()),(decide (l.foldl (fun s x => w64 (s + x)) s ≤ 2000),()),()) ((0,()),(false,()),())):=by
    intro l
    induction l with
    | nil => intro s; rfl
    | cons x l ih =>
     intro s
     show cond (rng x) (goL _ _ l _) _ = _
     rw [ih,List.all_cons]
     cases rng x <;> rfl
   rw [this]
   simp only [h,decide_true,Bool.true_and]
   rfl
  ·intro i s g hi
   show zfY f g _ = _
   unfold zfY
   simp only [zz_eq,lt_cast hi,le_cast,decide_true,cond_true,Int.toNat_natCast,w64_up (Nat.lt_trans hi hl)]
   obtain ⟨x,hx⟩:∃ x:Int,l.getD i 0 = x:=⟨_,rfl⟩
   simp only [hx]
   unfold rng
   by_cases c1:x < 0
   ·have:¬ (0 ≤ x ∧ x ≤ 2000):=by omega
    simp [c1,this]
   ·by_cases c2:x > 2000
    ·have:¬ (0 ≤ x ∧ x ≤ 2000):=by omega
     simp [c1,c2,this]
    ·have:(0 ≤ x ∧ x ≤ 2000):=by omega
     simp [c1,c2,this]
  ·intro s g
   show zfY f g _ = _
   unfold zfY
   simp only [zb,decide_false,cond_false]
 ·have e:(zz l.length != (8:Int)) = true:=by simp [zz_eq]; omega
  rw [e,cond_true]
  simp [h]
theorem zxE (f:Nat) (rs:List (List Int)) (hf:8 < f):zf2 f ((rs,()),()) = some ((roughB rs,()),()):=by
 show zjF f (iter (zjE f) f) rs = _
 unfold zjF
 by_cases h:rs.length = 3
 ·have e:((rs.length:Int) != (3:Int)) = false:=by simp [h]
  have e0:(0:Int) < (rs.length:Int):=by omega
  simp only [zz_eq,e,cond_false,e0,decide_true,cond_true,zqq f _ hf,Option.bind_some]
  obtain ⟨w,hw⟩:∃ w:Int,(cond (decide ((rs.getD (Int.toNat 0) []).length = 8) && (rs.getD (Int.toNat 0) []).all rng) ((isum (rs.getD (Int.toNat 0) []),()),(decide (isum (rs.getD (Int.toNat 0) []) ≤ 2000),()),()) ((0,()),(false,()),()):((Int × Unit) × ((Bool × Unit) × Unit))).fst.fst = w:=⟨_,rfl⟩
  rw [hw]
  have:=zt (st:=zjE f) (enc:=fun i (s:Unit) => ((i:Int),(rs.length:Int),rs,w)) (fun row k s => cond (rowB row && (isum row == w)) (k s) (some ((false,()),()))) (fun s => some ((true,()),())) rs [] ?_ ?_ f () (by omega)
  ·refine this.trans ?_
   rw [all_go _ _ (fun _ _ _ => rfl)]
   obtain ⟨a,b,c,rfl⟩:=three h
   unfold roughB
   simp only [List.all_cons,List.all_nil,List.getD_cons_zero,Int.toNat_zero,decide_true,Bool.true_and,List.length_cons,List.length_nil,Bool.and_true] at hw ⊢
   by_cases ha:rowB a = true
   ·have ha':=ha
    unfold rowB at ha'
    have:(decide (a.length = 8) && a.all rng) = true:=by
     revert ha'; cases decide (a.length = 8) <;> cases a.all rng <;> simp
    rw [this,cond_true] at hw
    rw [← hw,ha]
    simp only [beq_self_eq_true,Bool.and_self,Bool.true_and]
    cases (rowB b && (isum b == isum a)) <;> cases (rowB c && (isum c == isum a)) <;> rfl
   ·have:rowB a = false:=by simpa using ha
    simp [this]
  ·intro i s g hi
   show zf1 f g _ = _
   unfold zf1
   simp only [zz_eq,lt_cast hi,le_cast,decide_true,cond_true,Int.toNat_natCast,w64_up (show i < 4294967296 by omega),zqq f _ hf,Option.bind_some]
   obtain ⟨x,hx⟩:∃ x:List Int,rs.getD i [] = x:=⟨_,rfl⟩
   simp only [hx]
   unfold rowB
   rw [← Bool.and_assoc]
   cases (decide (x.length = 8) && x.all rng) with
   | false => rfl
   | true =>
    simp only [cond_true,bne]
    cases decide (isum x ≤ 2000) <;> cases (isum x == w) <;> rfl
  ·intro s g
   show zf1 f g _ = _
   unfold zf1
   simp only [zb,decide_false,cond_false]
 ·have e:(zz rs.length != (3:Int)) = true:=by simp [zz_eq]; omega
  rw [e,cond_true]
  unfold roughB
  simp [h]
theorem zIV (f:Nat) (l:List Int) (hf:8 < f):zjO f ((l,()),()) = some ((fewB l,()),()):=by
 show zjN f (iter (zjM f) f) l = _
 unfold zjN fewB
 by_cases h:l.length ≤ 6
 ·have e:¬ ((l.length:Int) > 6):=by omega
  simp only [zz_eq,e,decide_false,cond_false,h,decide_true,Bool.true_and]
  refine (zt (st:=zjM f) (enc:=fun i (p:Int) => ((i:Int),(l.length:Int),l,p)) (fun x k p => cond (decide (p < x ∧ x ≤ 63)) (k x) (some ((false,()),()))) (fun s => some ((true,()),())) l 0 ?_ ?_ f (-1) (by omega)).trans ?_
  ·intro i p g hi
   show zga f g _ = _
   unfold zga
   simp only [zz_eq,lt_cast hi,le_cast,decide_true,cond_true,Int.toNat_natCast,w64_up (show i < 4294967296 by omega)]
   obtain ⟨x,hx⟩:∃ x:Int,l.getD i 0 = x:=⟨_,rfl⟩
   simp only [hx]
   by_cases c1:x ≤ p
   ·have:¬ (p < x ∧ x ≤ 63):=by omega
    simp only [c1,this,and_self,and_true,true_and,and_false,false_and,decide_true,decide_false,cond_true,cond_false]
   ·by_cases c2:x ≥ 64
    ·have:¬ (p < x ∧ x ≤ 63):=by omega
     simp only [c1,c2,this,and_self,and_true,true_and,and_false,false_and,decide_true,decide_false,cond_true,cond_false]
    ·have:p < x ∧ x ≤ 63:=by omega
     simp only [c1,c2,this,and_self,and_true,true_and,and_false,false_and,decide_true,decide_false,cond_true,cond_false]
  ·intro s g
   show zga f g _ = _
   unfold zga
   simp only [zb,decide_false,cond_false]
  ·have:∀ (l:List Int) (p:Int),goL (R:=((Bool × Unit) × Unit)) (fun x k p => cond (decide (p < x ∧ x ≤ 63)) (k x) (some ((false,()),()))) (fun s => some ((true,()),())) l p = some ((fewGo l p,()),()):=by
    intro l
    induction l with
    | nil => intro p; rfl
    | cons x l ih =>
     intro p
     show cond _ (goL _ _ l x) _ = _
     rw [ih]
     show _ = some ((decide (p < x ∧ x ≤ 63) && fewGo l x,()),())
     cases decide (p < x ∧ x ≤ 63) <;> rfl
   exact this l (-1)
 ·have e:((l.length:Int) > 6):=by omega
  simp only [zz_eq,e,decide_true,cond_true,h,decide_false,Bool.false_and]
theorem zIW (f:Nat) (l:List Knot) (lost all:Int) (hf:8 < f):zjS f ((l,lost,all,()),()) = some ((topB l lost all,()),()):=by
 show zjR f (iter (zjQ f) f) l lost all = _
 unfold zjR topB
 simp only [zz_eq]
 by_cases h:l.length ≤ 4 ∧ 0 ≤ lost ∧ lost ≤ 2000 ∧ 0 ≤ all ∧ all ≤ 2000
 ·have e1:¬ ((l.length:Int) > 4):=by omega
  have e2:¬ (lost < 0):=by omega
  have e3:¬ (lost > 2000):=by omega
  have e4:¬ (all < 0):=by omega
  have e5:¬ (all > 2000):=by omega
  have e6:w64 (lost * 5) = lost * 5:=by rw [w64_id] <;> omega
  simp only [e1,e2,e3,e4,e5,e6,decide_false,cond_false,h,and_self,decide_true,Bool.true_and]
  refine (zt (st:=zjQ f) (enc:=fun i (p:Int × Int) => ((i:Int),(l.length:Int),l,p.1,p.2,l,lost,all)) (fun x k p => cond (decide (p.1 < x.1 ∧ x.1 ≤ 63 ∧ 1 ≤ x.2.1 ∧ x.2.1 ≤ 2000)) (k (x.1,w64 (p.2 + x.2.1))) (some ((false,()),()))) (fun p => some ((decide (p.2 ≤ all),()),())) l (0,0,()) ?_ ?_ f (-1,lost * 5) (by omega)).trans ?_
  ·intro i p g hi
   show zgd f g _ = _
   unfold zgd
   simp only [zz_eq,lt_cast hi,le_cast,decide_true,cond_true,Int.toNat_natCast,w64_up (show i < 4294967296 by omega)]
   obtain ⟨x,hx⟩:∃ x:Knot,l.getD i (0,0,()) = x:=⟨_,rfl⟩
   simp only [hx]
   by_cases c1:x.1 ≤ p.1
   ·have:¬ (p.1 < x.1 ∧ x.1 ≤ 63 ∧ 1 ≤ x.2.1 ∧ x.2.1 ≤ 2000):=by omega
    simp only [c1,this,and_self,and_true,true_and,and_false,false_and,decide_true,decide_false,cond_true,cond_false]
   by_cases c2:x.1 ≥ 64
   ·have:¬ (p.1 < x.1 ∧ x.1 ≤ 63 ∧ 1 ≤ x.2.1 ∧ x.2.1 ≤ 2000):=by omega
    simp only [c1,c2,this,and_self,and_true,true_and,and_false,false_and,decide_true,decide_false,cond_true,cond_false]
   by_cases c3:x.2.1 < 1
   ·have:¬ (p.1 < x.1 ∧ x.1 ≤ 63 ∧ 1 ≤ x.2.1 ∧ x.2.1 ≤ 2000):=by omega
    simp only [c1,c2,c3,this,and_self,and_true,true_and,and_false,false_and,decide_true,decide_false,cond_true,cond_false]
   by_cases c4:x.2.1 > 2000
   ·have:¬ (p.1 < x.1 ∧ x.1 ≤ 63 ∧ 1 ≤ x.2.1 ∧ x.2.1 ≤ 2000):=by omega
    simp only [c1,c2,c3,c4,this,and_self,and_true,true_and,and_false,false_and,decide_true,decide_false,cond_true,cond_false]
   have:(p.1 < x.1 ∧ x.1 ≤ 63 ∧ 1 ≤ x.2.1 ∧ x.2.1 ≤ 2000):=by omega
   simp only [c1,c2,c3,c4,this,and_self,and_true,true_and,and_false,false_and,decide_true,decide_false,cond_true,cond_false]
  ·intro s g
   show zgd f g _ = _
   unfold zgd
   simp only [zb,decide_false,cond_false]
  ·have:∀ (l:List Knot) (p:Int × Int),goL (R:=((Bool × Unit) × Unit)) (fun (x:Knot) k p => cond (decide (p.1 < x.1 ∧ x.1 ≤ 63 ∧ 1 ≤ x.2.1 ∧ x.2.1 ≤ 2000)) (k (x.1,w64 (p.2 + x.2.1))) (some ((false,()),()))) (fun p => some ((decide (p.2 ≤ all),()),())) l p = some ((topGo all l p.1 p.2,()),()):=by
    intro l
    induction l with
    | nil => intro p; rfl
    | cons x l ih =>
     intro p
     show cond _ (goL _ _ l _) _ = _
     rw [ih]
     show _ = some ((decide (p.1 < x.1 ∧ x.1 ≤ 63 ∧ 1 ≤ x.2.1 ∧ x.2.1 ≤ 2000) && topGo all l x.1 (w64 (p.2 + x.2.1)),()),())
     cases decide (p.1 < x.1 ∧ x.1 ≤ 63 ∧ 1 ≤ x.2.1 ∧ x.2.1 ≤ 2000) <;> rfl
   exact this l _
 ·simp only [h,decide_false,Bool.false_and]
  by_cases c1:(l.length:Int) > 4
  ·simp only [c1,decide_true,cond_true]
  by_cases c2:lost < 0
  ·simp only [c1,c2,decide_true,cond_true,decide_false,cond_false]
  by_cases c3:lost > 2000
  ·simp only [c1,c2,c3,decide_true,cond_true,decide_false,cond_false]
  by_cases c4:all < 0
  ·simp only [c1,c2,c3,c4,decide_true,cond_true,decide_false,cond_false]
  by_cases c5:all > 2000
  ·simp only [c1,c2,c3,c4,c5,decide_true,cond_true,decide_false,cond_false]
  exact absurd ⟨by omega,by omega,by omega,by omega,by omega⟩ h
theorem zIX (f:Nat) (rs:List (List Int)) (hf:8 < f):znr f ((rs,()),()) = some ((allR rs,()),()):=by
 show znq f rs = _
 unfold znq allR
 rw [zxE f rs hf,Option.bind_some]
 cases h:roughB rs
 ·rfl
 ·have h':=h
  unfold roughB at h'
  simp only [Bool.and_eq_true,decide_eq_true_eq] at h'
  obtain ⟨h3,h4⟩:=h'
  obtain ⟨a,b,c,rfl⟩:=three h3
  simp only [List.all_cons,Bool.and_eq_true,rowB] at h4
  have:(decide (a.length = 8) && a.all rng) = true:=by simp [h4.1.1]
  simp only [zz_eq,Bool.not_true,cond_false,List.length_cons,List.length_nil,zqq f _ hf,Int.toNat_zero,List.getD_cons_zero,this,cond_true,Option.bind_some]
  rfl
theorem zeT (f:Nat) (n:Int):zS f ((n,()),()) = some ((thingB n,()),()):=zxD f n
theorem zIY (f:Nat) (t:Int):znE f ((t,()),()) = some ((mark t,()),()):=by
 show znD f t = _
 unfold znD mark
 rw [zeT,Option.bind_some,Int.mul_comm]
 cases thingB t <;> rfl
theorem zqr (f:Nat) (i:Nat) (t:Int) (hi:i < 3) (ht:thingB t = true):zf7 f ((((i:Nat):Int),()),(t,()),()) = some (((pl i t:Int),()),()):=by
 have h:=zeP ht
 show zny f (i:Int) t = _
 unfold zny pl
 rw [zeT,Option.bind_some,ht]
 match i,hi with
 | 0,_ =>
  have e1:w64 (3 * t) = 3 * t:=by rw [w64_id] <;> omega
  have e2:w64 (Int.tdiv t 8) = t / 8:=by rw [tdivP h.1,w64_id] <;> omega
  have e3:w64 (3 * t + t / 8) = 3 * t + t / 8:=by rw [w64_id] <;> omega
  rw [e1,e2,e3,tmod8 (by omega)]
  have e5:(3 * t + t / 8) % 8 = (((3 * t + t / 8) % 8).toNat:Int):=by omega
  rw [e5]; rfl
 | 1,_ =>
  have e1:w64 (5 * t) = 5 * t:=by rw [w64_id] <;> omega
  have e2:w64 (Int.tdiv t 16) = t / 16:=by rw [tdivP h.1,w64_id] <;> omega
  have e3:w64 (5 * t + t / 16) = 5 * t + t / 16:=by rw [w64_id] <;> omega
  have e4:w64 (5 * t + t / 16 + 1) = 5 * t + t / 16 + 1:=by rw [w64_id] <;> omega
  rw [e1,e2,e3,e4,tmod8 (x:=5 * t + t / 16 + 1) (by omega)]
  have e5:(5 * t + t / 16 + 1) % 8 = (((5 * t + t / 16 + 1) % 8).toNat:Int):=by omega
  rw [e5]; rfl
 | 2,_ =>
  have e2:w64 (Int.tdiv t 4) = t / 4:=by rw [tdivP h.1,w64_id] <;> omega
  have e3:w64 (t + t / 4) = t + t / 4:=by rw [w64_id] <;> omega
  have e4:w64 (t + t / 4 + 2) = t + t / 4 + 2:=by rw [w64_id] <;> omega
  rw [e2,e3,e4,tmod8 (x:=t + t / 4 + 2) (by omega)]
  have e5:(t + t / 4 + 2) % 8 = (((t + t / 4 + 2) % 8).toNat:Int):=by omega
  rw [e5]; rfl
abbrev RankR:=(List Knot × Int × Unit) × (Bool × Unit) × Unit
def noRank:RankR:=(([],0,()),(false,()),())
def zipAdd (a b:List Int):List Int:=List.zipWith (fun u v => w64 (u + v)) a b
def putAll (a b:List Knot):List Knot:=b.foldl (fun k x => putP x.1 x.2.1 k false) a
theorem zxF:∀ (b a:List Knot),(putAll a b).length ≤ a.length + b.length
 | [],a => Nat.le_refl _
 | x :: b,a => by
  have h1:=zxF b (putP x.1 x.2.1 a false)
  have h2:=zeQ x.1 x.2.1 a false
  show (putAll (putP x.1 x.2.1 a false) b).length ≤ _
  simp only [List.length_cons]; omega
theorem zIZ (f:Nat):zos f () = some (sumNew,()):=rfl
theorem or_one (x:Nat) (h:x < 4611686018427387904):(BitVec.ofInt 64 (2 * (x:Int)) ||| BitVec.ofInt 64 1).toNat = 2 * x + 1:=by
 rw [BitVec.toNat_or,BitVec.toNat_ofInt,BitVec.toNat_ofInt]
 have e1:((2 * (x:Int)) % ((2 ^ 64:Nat):Int)).toNat = x <<< 1:=by
  rw [Nat.shiftLeft_eq]; omega
 have e2:((1:Int) % ((2 ^ 64:Nat):Int)).toNat = 1:=by decide
 rw [e1,e2,← Nat.shiftLeft_add_eq_or_of_lt (by omega) x,Nat.shiftLeft_eq]
 omega
theorem shl_one (x:Int) (h0:0 ≤ x) (h:x < 4611686018427387904):w64 (x * 2 ^ min (Int.toNat 1) (IntKind.bits IntKind.i64)) = 2 * x:=by
 have e:(2:Int) ^ min (Int.toNat 1) (IntKind.bits IntKind.i64) = 2:=by decide
 rw [e,w64_id] <;> omega
theorem zvl (f:Nat) (ks:List Knot) (hl:ks.length < 4294967296) (hg:GoodK ks):∀ (d i:Nat) (a:List Int) (Z:Nat),i + d = ks.length → a.length = 128 → d < Z →
  iter (zkg f) Z ((i:Int),(ks.length:Int),ks,a) = some (numsGo (ks.drop i) a,())
 | 0,i,a,Z + 1,hi,ha,hf => by
  rw [iter]
  show zgz f _ _ = _
  unfold zgz
  have h1:¬ ((i:Int) < (ks.length:Int)):=by omega
  have h2:ks.drop i = []:=List.drop_eq_nil_of_le (by omega)
  simp [h1,h2,numsGo]
 | d + 1,i,a,Z + 1,hi,ha,hf => by
  rw [iter]
  show zgz f _ _ = _
  unfold zgz
  have h1:(i:Int) < (ks.length:Int):=by omega
  have h2:(0:Int) ≤ (i:Int):=by omega
  have h3:w64 ((i:Int) + 1) = (i:Int) + 1:=by rw [w64_id] <;> omega
  have ih:∀ a:List Int,a.length = 128 → iter (zkg f) Z ((i:Int) + 1,(ks.length:Int),ks,a) = some (numsGo (ks.drop (i + 1)) a,()):=fun a ha => by
   exact_mod_cast zvl f ks hl hg d (i + 1) a Z (by omega) ha (by omega)
  have hk:=hg (ks.getD i (0,0,())) (by
   rw [List.getD_eq_getElem?_getD,List.getElem?_eq_getElem (by omega)]; exact List.getElem_mem _)
  rw [zeN (0,0,()) (show i < ks.length by omega)]
  simp only [h1,h2,h3,zz_eq,Int.toNat_natCast,decide_true,cond_true]
  obtain ⟨k,hk'⟩:∃ k:Knot,ks.getD i (0,0,()) = k:=⟨_,rfl⟩
  simp only [hk'] at hk ⊢
  have c1:0 ≤ k.1:=by omega
  have c2:k.1 < ((128:Nat):Int):=by omega
  have c3:k.1.toNat < a.length:=by omega
  simp only [c1,c2,c3,decide_true,cond_true]
  rw [ih _ (by simpa using ha)]
  rfl
theorem zxG (f:Nat) (ks:List Knot) (a:List Int) (hl:ks.length < 4294967296) (hg:GoodK ks) (ha:a.length = 128) (hf:ks.length < f):zdG f (a,(ks,()),()) = some (numsGo ks a,()):=by
 unfold zdG zoi
 have:=zvl f ks hl hg ks.length 0 a f (by omega) ha hf
 simpa [zz_eq] using this
def dq:Nat → Nat → List Int
 | _,0 => []
 | n,k + 1 => (n:Int) :: dq (n - 1) k
theorem dq_len:∀ {n k:Nat},(dq n k).length = k
 | _,0 => rfl
 | n,k + 1 => by simp [dq,dq_len]
theorem dq_snoc:∀ {n k:Nat},dq n (k + 1) = dq n k ++ [((n - k:Nat):Int)]
 | n,0 => by simp [dq]
 | n,k + 1 => by
  rw [dq,dq_snoc,dq,List.cons_append]
  have:n - 1 - k = n - (k + 1):=by omega
  rw [this]
theorem shl_or (x:Int) (h0:0 ≤ x) (h:x < 4611686018427387904):w64 (zz (BitVec.toNat (BitVec.ofInt (IntKind.bits IntKind.i64) (w64 (x * 2 ^ min (Int.toNat 1) (IntKind.bits IntKind.i64))) ||| BitVec.ofInt (IntKind.bits IntKind.i64) 1))) = 2 * x + 1:=by
 rw [shl_one x h0 h]
 obtain ⟨y,rfl⟩:∃ y:Nat,x = y:=⟨x.toNat,by omega⟩
 show w64 (zz (BitVec.toNat (BitVec.ofInt 64 (2 * (y:Int)) ||| BitVec.ofInt 64 1))) = _
 rw [or_one y (by omega),zz_eq,w64_id] <;> omega
theorem and_one (x:Int) (h0:0 ≤ x) (h:x < 4611686018427387904):w64 (zz (BitVec.toNat (BitVec.ofInt (IntKind.bits IntKind.i64) x &&& BitVec.ofInt (IntKind.bits IntKind.i64) 1))) = x % 2:=by
 show w64 (zz (BitVec.toNat (BitVec.ofInt 64 x &&& BitVec.ofInt 64 1))) = _
 obtain ⟨y,rfl⟩:∃ y:Nat,x = y:=⟨x.toNat,by omega⟩
 rw [BitVec.toNat_and,BitVec.toNat_ofInt,BitVec.toNat_ofInt]
 have e1:((y:Int) % ((2 ^ 64:Nat):Int)).toNat = y:=by omega
 have e2:((1:Int) % ((2 ^ 64:Nat):Int)).toNat = 1:=by decide
 rw [e1,e2,Nat.and_one_is_mod,zz_eq,w64_id] <;> omega
theorem shr_one (x:Int) (h0:0 ≤ x):Int.fdiv x (2 ^ min (Int.toNat 1) (IntKind.bits IntKind.i64)) = x / 2:=by
 have e:(2:Int) ^ min (Int.toNat 1) (IntKind.bits IntKind.i64) = 2:=by decide
 rw [e,Int.fdiv_eq_ediv_of_nonneg _ (by omega)]
theorem zvm (f:Nat) (all:Int):∀ (n:Nat) (a:List Int) (Z:Nat),n ≤ 63 → a.length = 128 → n < Z →
  iter (zci f) Z (all,a,dq n (n - n / 2)) = some (sqGo all n a,())
 | 0,a,Z + 1,hn,ha,hf => by
  rw [iter]
  show zgA f _ _ = _
  unfold zgA
  simp [sqGo,dq,zz_eq]
 | n + 1,a,Z + 1,hn,ha,hf => by
  rw [iter]
  show zgA f _ _ = _
  obtain ⟨k,hk⟩:∃ k,n + 1 - (n + 1) / 2 = k + 1:=⟨n - (n + 1) / 2,by omega⟩
  have ih:∀ a:List Int,a.length = 128 → iter (zci f) Z (all,a,dq n (n - n / 2)) = some (sqGo all n a,()):=fun a ha =>
   zvm f all n a Z (by omega) ha (by omega)
  rw [hk,dq,Nat.add_sub_cancel]
  unfold zgA
  have g0:(((n + 1:Nat):Int) :: dq n k).getD (Int.toNat 0) 0 = ((n + 1:Nat):Int):=rfl
  have g1:List.take (k + 1 - Int.toNat 1) (List.drop (Int.toNat 1) (((n + 1:Nat):Int) :: dq n k)) = dq n k:=by
   have:Int.toNat 1 = 1:=rfl
   rw [this,List.drop_succ_cons,List.drop_zero,Nat.add_sub_cancel]
   exact List.take_of_length_le (by rw [dq_len]; exact Nat.le_refl _)
  have hlen:(((n + 1:Nat):Int) :: dq n k).length = k + 1:=by simp [dq_len]
  have h1:w64 (((n + 1:Nat):Int) * 2 ^ min (Int.toNat 1) (IntKind.bits IntKind.i64)) = ((2 * (n + 1):Nat):Int):=by
   rw [shl_one _ (by omega) (by omega)]; omega
  have h2:w64 (zz (BitVec.toNat (BitVec.ofInt (IntKind.bits IntKind.i64) ((2 * (n + 1):Nat):Int) ||| BitVec.ofInt (IntKind.bits IntKind.i64) 1))) = ((2 * (n + 1) + 1:Nat):Int):=by
   have:=shl_or ((n + 1:Nat):Int) (by omega) (by omega)
   rw [h1] at this
   rw [this]; omega
  have h3:=and_one ((n + 1:Nat):Int) (by omega) (by omega)
  have h4:=shr_one ((n + 1:Nat):Int) (by omega)
  simp only [zz_eq] at h2 h3
  have l0:(0:Int) < ((k + 1:Nat):Int):=by omega
  have l0':(1:Int) ≤ ((k + 1:Nat):Int):=by omega
  have l1:2 * (n + 1) < 128:=by omega
  have l2:2 * (n + 1) + 1 < 128:=by omega
  have l3:n + 1 < 128:=by omega
  have l4:((2 * (n + 1):Nat):Int) < ((128:Nat):Int):=by omega
  have l5:((2 * (n + 1) + 1:Nat):Int) < ((128:Nat):Int):=by omega
  have l6:((n + 1:Nat):Int) < ((128:Nat):Int):=by omega
  have l7:(dq n k).length + 1 < LIM:=by rw [dq_len]; simp only [LIM]; omega
  have z0:Int.toNat 0 < k + 1:=by simp
  simp only [g0,g1,hlen,h1,h2,h3,h4,zz_eq,l0,l0',gt_iff_lt,decide_true,cond_true,z0,Int.natCast_nonneg,Int.toNat_natCast,List.length_set,ha,l1,l2,l3,l4,l5,l6,l7,List.length_singleton]
  -- behind the two tests,the queue
  have q:∀ a':List Int,a'.length = 128 → (cond (((n + 1:Nat):Int) % 2 == 0) (iter (zci f) Z (all,a',dq n k ++ [((n + 1:Nat):Int) / 2])) (iter (zci f) Z (all,a',dq n k))) = some (sqGo all n a',()):=by
   intro a' ha'
   by_cases hp:((n + 1:Nat):Int) % 2 = 0
   ·have e:dq n k ++ [((n + 1:Nat):Int) / 2] = dq n (n - n / 2):=by
     have e1:n - n / 2 = k + 1:=by omega
     have e2:((n + 1:Nat):Int) / 2 = ((n - k:Nat):Int):=by omega
     rw [e1,dq_snoc,e2]
    rw [hp,e]
    exact ih a' ha'
   ·have e:k = n - n / 2:=by omega
    have hb:(((n + 1:Nat):Int) % 2 == 0) = false:=by simpa using hp
    rw [hb,cond_false,e]
    exact ih a' ha'
  unfold sqGo sq1
  by_cases c1:0 < w64 (a.getD (2 * (n + 1)) 0 + a.getD (2 * (n + 1) + 1) 0)
  ·by_cases c2:w64 (w64 (a.getD (2 * (n + 1)) 0 + a.getD (2 * (n + 1) + 1) 0) + a.getD (n + 1) 0) ≤ w64 (all.tdiv 8)
   ·rw [if_pos ⟨c1,c2⟩]
    simp only [c1,c2,decide_true,cond_true]
    exact q _ (by simpa using ha)
   ·rw [if_neg (fun h => c2 h.2)]
    simp only [c1,c2,decide_true,decide_false,cond_true,cond_false]
    exact q _ ha
  ·rw [if_neg (fun h => c1 h.1)]
   simp only [c1,decide_false,cond_false]
   exact q _ ha
theorem zvn (f:Nat) (all:Int) (a:List Int):∀ (d:Nat) (q:List Int) (Z:Nat),q.length + d ≤ 64 → d < Z →
  iter (zok f) Z (((31 + d:Nat):Int),all,a,q) = iter (zci f) f (all,a,q ++ dq (31 + d) d)
 | 0,q,Z + 1,hq,hf => by
  rw [iter]
  show zdK f _ _ _ = _
  unfold zdK
  simp [dq]
 | d + 1,q,Z + 1,hq,hf => by
  rw [iter]
  show zdK f _ _ _ = _
  unfold zdK
  have h1:((31 + (d + 1):Nat):Int) ≥ 32:=by omega
  have h2:w64 (((31 + (d + 1):Nat):Int) - 1) = ((31 + d:Nat):Int):=by rw [w64_id] <;> omega
  have h3:q.length + 1 < LIM:=by simp only [LIM]; omega
  simp only [h1,h2,h3,decide_true,cond_true,List.length_singleton]
  rw [zvn f all a d _ Z (by simp; omega) (by omega),dq,show 31 + (d + 1) - 1 = 31 + d from by omega]
  simp
theorem zI0 (f:Nat) (a:List Int) (all:Int) (ha:a.length = 128) (hf:64 < f):zgB f (a,(all,()),()) = some (sqGo all 63 a,()):=by
 unfold zgB zol
 have h1:=zvn f all a 32 [] f (by simp) (by omega)
 have h2:=zvm f all 63 a f (by omega) ha (by omega)
 have e:(List.replicate (Int.toNat 0) (0:Int)) = []:=rfl
 simp only [e]
 exact h1.trans h2
theorem zvo (f:Nat) (a:List Int) (all u:Int) (ha:a.length = 128):∀ (d i:Nat) (out:List Knot) (Z:Nat),i + d = 128 → out.length ≤ i → d < Z →
  iter (zgF f) Z ((i:Int),a,all,out,u) = some ((out ++ listGo i (a.drop i),all,()),())
 | 0,i,out,Z + 1,hi,ho,hf => by
  rw [iter]
  show zgE f _ _ = _
  unfold zgE
  have h1:¬ ((i:Int) < 128):=by omega
  have h2:a.drop i = []:=List.drop_eq_nil_of_le (by omega)
  simp [h1,h2,listGo]
 | d + 1,i,out,Z + 1,hi,ho,hf => by
  rw [iter]
  show zgE f _ _ = _
  unfold zgE
  have h1:(i:Int) < 128:=by omega
  have h1':(i:Int) < ((128:Nat):Int):=by omega
  have h2:(0:Int) ≤ (i:Int):=by omega
  have h3:w64 ((i:Int) + 1) = (i:Int) + 1:=by rw [w64_id] <;> omega
  have ih:∀ out:List Knot,out.length ≤ i + 1 → iter (zgF f) Z ((i:Int) + 1,a,all,out,u) = some ((out ++ listGo (i + 1) (a.drop (i + 1)),all,()),()):=fun out ho => by
   exact_mod_cast zvo f a all u ha d (i + 1) out Z (by omega) ho (by omega)
  have h4:out.length + 1 < LIM:=by simp only [LIM]; omega
  rw [zeN 0 (show i < a.length by omega)]
  simp only [h1,h1',h2,h3,zz_eq,ha,Int.toNat_natCast,decide_true,cond_true,listGo,List.length_singleton,h4]
  by_cases c:0 < a.getD i 0
  ·simp only [c,gt_iff_lt,decide_true,cond_true,if_true]
   rw [ih _ (by simp; omega)]
   simp
  ·simp only [c,gt_iff_lt,decide_false,cond_false,if_false]
   exact ih _ (by omega)
theorem zI1 (f:Nat) (ka kb:List Knot) (alla allb:Int) (hla:ka.length < 2147483648) (hlb:kb.length < 2147483648) (ga:GoodK ka) (gb:GoodK kb) (hfa:ka.length < f) (hfb:kb.length < f) (hf:128 < f) :
  zkj f ((ka,alla,()),(kb,allb,()),()) = some ((sumK ka kb (w64 (alla + allb)),w64 (alla + allb),()),()):=by
 show zki f (iter (zgF f) f) ka alla kb allb = _
 unfold zki sumK
 have hz:(List.replicate 128 (0:Int)).length = 128:=List.length_replicate ..
 have h1:(numsGo ka zeros).length = 128:=by rw [ziF]; exact hz
 have h2:(numsGo kb (numsGo ka zeros)).length = 128:=by rw [ziF]; exact h1
 have h3:(sqGo (w64 (alla + allb)) 63 (numsGo kb (numsGo ka zeros))).length = 128:=by rw [zmD]; exact h2
 have e1:=zxG f ka zeros (by omega) ga hz hfa
 have e2:=zxG f kb (numsGo ka zeros) (by omega) gb h1 hfb
 have e3:=zI0 f (numsGo kb (numsGo ka zeros)) (w64 (alla + allb)) h2 (by omega)
 have e4:=zvo f (sqGo (w64 (alla + allb)) 63 (numsGo kb (numsGo ka zeros))) (w64 (alla + allb)) 0 h3 128 0 [] f (by omega) (by simp) hf
 have e0:List.replicate 128 (0:Int) = zeros:=rfl
 rw [e0,e1,Option.bind_some,e2,Option.bind_some,e3,Option.bind_some]
 have e5:Nat.beq ((sqGo (w64 (alla + allb)) 63 (numsGo kb (numsGo ka zeros))).length * Kd.sz (Kd.int IntKind.i64)) 128 = true:=by
  rw [h3]; rfl
 simp only [e5,cond_true]
 rw [List.nil_append,List.drop_zero] at e4
 exact e4
theorem zI2 (f:Nat) (ks:List Knot) (all t:Int) (hl:ks.length < 2147483648) (hf:ks.length < f) (hf2:128 < f) :
  zkk f ((ks,all,()),(t,()),()) = some (if addB ks all t = true then ((addS ks all t,w64 (all + 1),()),(true,()),()) else noRank):=by
 show zon f ks all t = _
 unfold zon noRank
 simp only [zIU f ks all (by omega) hf,zxD,Option.bind_some]
 by_cases c:okB ks all = true
 ·by_cases c2:0 ≤ t ∧ t ≤ 63
  ·have b:=okB_all c
   by_cases c3:all = 2000
   ·have:addB ks all t = false:=by unfold addB; simp [c,c3]
    subst c3
    simp [c,c2,this]
   ·have c4:(all == 2000) = false:=by simpa using c3
    have h:addB ks all t = true:=by unfold addB; simp [c]; omega
    obtain ⟨e1,e2⟩:=zwG h
    have e3:w64 (64 + t) = 64 + t:=by rw [w64_id] <;> omega
    have g1:GoodK [((64 + t,1,()):Knot)]:=fun k hk => by
     simp only [List.mem_singleton] at hk
     subst hk
     show 1 ≤ 64 + t ∧ 64 + t ≤ 127 ∧ (1:Int) ≤ 1 ∧ (1:Int) ≤ 2000
     omega
    have e4:=zI1 f ks [(64 + t,1,())] all 1 hl (by simp) (zmC c) g1 hf (by simp; omega) hf2
    rw [e2] at e4
    simp [c,c2,c4,h,e1,e2,e3,e4]
  ·have:addB ks all t = false:=by unfold addB; simp [c]; omega
   simp [c,c2,this]
 ·have:addB ks all t = false:=by unfold addB; simp [c]
  simp [c,this]
theorem zI3 {a b:List Int} {i:Nat} (ha:i < a.length) (hb:i < b.length):(List.zip a b).getD i (0,0) = (a.getD i 0,b.getD i 0):=by
 rw [List.getD_eq_getElem?_getD,List.getD_eq_getElem?_getD,List.getD_eq_getElem?_getD,List.getElem?_eq_getElem ha,List.getElem?_eq_getElem hb,
  List.getElem?_eq_getElem (by rw [List.length_zip]; omega),List.getElem_zip]
 rfl
theorem zI4 (f:Nat) (a b:List Int) (ha:a.length = 8) (hb:b.length = 8) (hf:8 < f):zjK f (a,b,()) = some (zipAdd a b,()):=by
 show zjJ f (iter (zjI f) f) a b = _
 unfold zjJ
 have hz:(List.zip a b).length = 8:=by rw [List.length_zip]; omega
 have h1:(8:Nat) < LIM:=by simp only [LIM]; omega
 simp only [zz_eq,ha,List.length_replicate,Int.toNat_natCast,Int.natCast_nonneg,Int.le_refl,h1,decide_true,cond_true]
 have:=zaz (st:=zjI f) (enc:=fun i out => ((i:Int),((8:Nat):Int),a,b,out)) (fun out => some (out,())) (List.zip a b) (0,0) (fun p => w64 (p.1 + p.2)) ?_ ?_ f 0 (by omega)
 ·rw [hz] at this
  refine this.trans ?_
  rw [List.map_zip_eq_zipWith]
  rfl
 ·intro i out g hi ho
  show zf5 f g _ = _
  unfold zf5
  have l1:i < a.length:=by omega
  have l2:i < b.length:=by omega
  have l3:i < out.length:=by omega
  have l4:i < 8:=by omega
  have e:∀ x y:Int,zns f ((x,()),(y,()),()) = some ((w64 (x + y),()),()):=fun _ _ => rfl
  simp only [zz_eq,lt_cast l1,lt_cast l2,lt_cast l3,lt_cast l4,l3,le_cast,decide_true,cond_true,Int.toNat_natCast,w64_up (show i < 4294967296 by omega),e,Option.bind_some,zI3 l1 l2]
 ·intro out g
  show zf5 f g _ = _
  unfold zf5
  simp only [hz,zb,decide_false,cond_false]
theorem zI5 (f:Nat) {a b c a' b' c':List Int} (ha:a.length = 8) (hb:b.length = 8) (hc:c.length = 8) (ha':a'.length = 8) (hb':b'.length = 8) (hc':c'.length = 8) (hf:8 < f) :
  znx f (([a,b,c],()),([a',b',c'],()),()) = some (([zipAdd a a',zipAdd b b',zipAdd c c'],()),()):=by
 have e:∀ x y:List Int,x.length = 8 → y.length = 8 → zf6 f ((x,()),(y,()),()) = some ((zipAdd x y,()),()):=fun x y h h' => by
  show znt f x y = _
  unfold znt
  rw [zI4 f x y h h' hf]; rfl
 show znw f [a,b,c] [a',b',c'] = _
 unfold znw
 have:znv f ([a,b,c],[a',b',c'],()) = some ([zipAdd a a',zipAdd b b',zipAdd c c'],()):=by
  show zdp f a b c a' b' c' = _
  unfold zdp
  rw [e a a' ha ha',Option.bind_some,e b b' hb hb',Option.bind_some,e c c' hc hc']; rfl
 rw [this]; rfl
theorem zqs {a:List Int} (h:a.length = 8) (hr:∀ x ∈ a,0 ≤ x ∧ x ≤ 2000):zipAdd a (List.replicate 8 0) = a:=by
 have gen:∀ (n:Nat) (a:List Int),a.length = n → (∀ x ∈ a,0 ≤ x ∧ x ≤ 2000) → zipAdd a (List.replicate n 0) = a:=by
  intro n
  induction n with
  | zero => intro a h _; rw [List.length_eq_zero_iff.1 h]; rfl
  | succ n ih =>
   intro a h hr
   cases a with
   | nil => simp at h
   | cons x a =>
    have e1:=ih a (by simpa using h) (fun y hy => hr y (List.mem_cons_of_mem _ hy))
    have e2:w64 (x + 0) = x:=by have:=hr x (List.mem_cons_self ..); rw [w64_id] <;> omega
    show w64 (x + 0) :: zipAdd a (List.replicate n 0) = _
    rw [e1,e2]
 exact gen 8 a h hr
theorem zI6 (f:Nat) (rs:List (List Int)) (t n:Int) (hf:8 < f):znA f ((rs,()),(t,()),(n,()),()) = some (((roughAdd rs t n).1,()),((roughAdd rs t n).2,()),()):=by
 show znz f rs t n = _
 unfold znz roughAdd
 simp only [zxE f rs hf,zeT,Option.bind_some,zIX f rs hf]
 cases h:roughB rs
 ·rfl
 cases ht:thingB t
 ·rfl
 have hA:allR rs = isum (rs.getD 0 []):=by unfold allR; rw [h]; rfl
 rw [hA]
 obtain ⟨a,b,c,rfl,ha,hb,hc,-,-⟩:=zmB h
 have l0:=row_len ha
 have l1:=row_len hb
 have l2:=row_len hc
 simp only [Bool.not_true,cond_false,List.getD_cons_zero,Bool.true_and]
 by_cases c0:n < 0
 ·have:¬ (0 ≤ n ∧ n ≤ w64 (2000 - isum a)):=by omega
  simp only [c0,this,decide_true,decide_false,cond_true,cond_false]
 by_cases c1:n > w64 (2000 - isum a)
 ·have:¬ (0 ≤ n ∧ n ≤ w64 (2000 - isum a)):=by omega
  simp only [c0,c1,this,decide_true,decide_false,cond_true,cond_false]
 have cn:0 ≤ n ∧ n ≤ w64 (2000 - isum a):=by omega
 have p0:=zqr f 0 t (by omega) ht
 have p1:=zqr f 1 t (by omega) ht
 have p2:=zqr f 2 t (by omega) ht
 rw [show ((0:Nat):Int) = 0 from rfl] at p0
 rw [show ((1:Nat):Int) = 1 from rfl] at p1
 rw [show ((2:Nat):Int) = 2 from rfl] at p2
 have q0:=pl_lt 0 t
 have q1:=pl_lt 1 t
 have q2:=pl_lt 2 t
 have z0:(pl 0 t:Int) < 8:=by omega
 have z1:(pl 1 t:Int) < 8:=by omega
 have z2:(pl 2 t:Int) < 8:=by omega
 have new:zjG f () = some (([List.replicate 8 0,List.replicate 8 0,List.replicate 8 0],()),()):=rfl
 have s:=zI5 f l0 l1 l2 (a':=List.replicate 8 0) (b':=List.replicate 8 0) (c':=List.replicate 8 0) (by simp) (by simp) (by simp) hf
 rw [zqs l0 (row_all ha),zqs l1 (row_all hb),zqs l2 (row_all hc)] at s
 have d1:([a,b,c]:List (List Int)).getD 1 [] = b:=rfl
 have d2:([a,b,c]:List (List Int)).getD 2 [] = c:=rfl
 simp only [c0,c1,cn,and_self,decide_true,decide_false,cond_true,cond_false,new,Option.bind_some,s,p0,p1,p2,List.getD_cons_zero,d1,d2,zz_eq,l0,l1,l2,le_cast,show ((8:Nat):Int) = 8 from rfl,z0,z1,z2,q0,q1,q2,Int.toNat_natCast]
 rfl
theorem fst6_ok (p q:Int → Bool):leastOK (fst6 p) (fst6 q) = true:=by
 have g:∀ p,(fst6 p).length ≤ 6 ∧ (fst6 p).all (fun x => decide (x ≤ 63)) = true:=fun p => by
  have h:=zmG p
  refine ⟨six h,?_⟩
  unfold fewB at h
  simp only [Bool.and_eq_true] at h
  rw [List.all_eq_true]
  intro x hx
  exact decide_eq_true (zeR h.2 hx).2
 unfold leastOK
 simp only [(g p).1,(g q).1,(g p).2,(g q).2,decide_true,Bool.and_self]
theorem zI7 (f:Nat) (l:List Int) (t:Int) (hf:8 < f):znG f ((l,()),(t,()),()) = some (((fewAdd l t).1,()),((fewAdd l t).2,()),()):=by
 show znF f l t = _
 unfold znF fewAdd
 simp only [zIV f l hf,zeT,zIY,Option.bind_some]
 cases h:fewB l
 ·rfl
 cases ht:thingB t
 ·rfl
 have hm:=zqg ht
 have ok:leastOK l [mark t] = true:=by
  rw [zwY h,← zw1 hm.1 hm.2]; exact fst6_ok _ _
 have:zno f ((l,()),([mark t],()),()) = some ((leastL l [mark t],()),()):=by
  show cond (leastOK l [mark t]) _ _ = _
  rw [ok]; rfl
 simp only [Bool.not_true,cond_false,this,Option.bind_some,Bool.and_self,cond_true,zw2 h hm.1 hm.2]
def kT (x:Knot):Int:=x.1
theorem mid_set {α:Type} {x y:α} {r:List α}:∀ {p:List α} {n:Nat},n = p.length → (p ++ x :: r).set n y = p ++ y :: r
 | [],_,rfl => rfl
 | z :: p,_,rfl => by show z :: (p ++ x :: r).set p.length y = _; rw [mid_set rfl]; rfl
theorem zeU {α:Type} {x d:α} {r:List α}:∀ {p:List α} {n:Nat},n = p.length → (p ++ x :: r).getD n d = x
 | [],_,rfl => rfl
 | z :: p,_,rfl => by show (p ++ x :: r).getD p.length d = _; rw [zeU rfl]
theorem zvp (f:Nat) (a b:Int):zjU f ((a,()),(b,()),()) = some ((if a < b then -1 else if a > b then 1 else 0,()),()):=by
 show znL f a b = _
 unfold znL
 have e:∀ x:Int,zjT f ((x,()),()) = some ((false,()),()):=fun x => by
  show some (((x != x,()),())) = _
  simp
 simp only [e,Option.bind_some,cond_false]
 by_cases c1:a < b
 ·simp [c1]
 ·by_cases c2:a > b
  ·simp [c1,c2]
  ·simp [c1,c2]
theorem zvq {a b:Int}:decide ((if a < b then (-1:Int) else if a > b then 1 else 0) < 0) = decide (a < b):=by
 by_cases c1:a < b
 ·simp [c1]
 ·by_cases c2:a > b
  ·simp [c1,c2]
  ·simp [c1,c2]
theorem zxH (f n:Nat) (h:n < 13):∃ v,zgk f ((IntKind.wrap .u64 (zz n),()),()) = some v:=by
 have:∀ n,n < 13 → (zgk f ((IntKind.wrap .u64 (zz n),()),())).isSome = true:=fun n h =>
  match n,h with
  | 0,_ => by kernel_rfl
  | 1,_ => by kernel_rfl
  | 2,_ => by kernel_rfl
  | 3,_ => by kernel_rfl
  | 4,_ => by kernel_rfl
  | 5,_ => by kernel_rfl
  | 6,_ => by kernel_rfl
  | 7,_ => by kernel_rfl
  | 8,_ => by kernel_rfl
  | 9,_ => by kernel_rfl
  | 10,_ => by kernel_rfl
  | 11,_ => by kernel_rfl
  | 12,_ => by kernel_rfl
  | n + 13,h => by omega
 exact Option.isSome_iff_exists.1 (this n h)
theorem byv0 (f:Nat) (x y:Knot):znN f ((x.1,x.2.1,()),(y.1,y.2.1,()),()) = some ((if x.1 < y.1 then -1 else if x.1 > y.1 then 1 else 0,()),()):=by
 show znM f x.1 x.2.1 y.1 y.2.1 = _
 unfold znM
 rw [zvp]; rfl
theorem keyv0 (x y:Knot):decide (x.1 < y.1) = decide (kT x < kT y):=by
 unfold kT
 by_cases h:x.1 < y.1
 ·have:x.1 < y.1:=by omega
  simp [h,this]
 ·have:¬ x.1 < y.1:=by omega
  simp [h,this]
theorem zxI (f:Nat) (g0:zaF → zy):∀ (R:List Knot) (x:Knot) (S:List Knot) (i b:Int) (Z:Nat),R.length < Z → R.length + S.length < 1000 →
  iter (znS f g0) Z ((R.length:Int),(0:Int),i,b,R.reverse ++ x :: S) = g0 (w64 (i + 1),b,(0:Int),(revIns kT x R).reverse ++ S)
 | _,_,_,_,_,0,h,_ => by omega
 | [],x,S,i,b,Z + 1,_,hl => by
  rw [iter]
  show zdu f g0 _ _ = _
  unfold zdu
  rfl
 | y :: r,x,S,i,b,Z + 1,hf,hl => by
  simp only [List.length_cons] at hf hl
  rw [iter]
  show zdu f g0 _ _ = _
  unfold zdu
  have ed:(y :: r).reverse ++ x :: S = r.reverse ++ y :: x :: S:=by simp
  have ed2:(y :: r).reverse ++ x :: S = (r.reverse ++ [y]) ++ x :: S:=by simp
  have en:w64 (((r.length + 1:Nat):Int) - 1) = (r.length:Int):=by rw [w64_id] <;> omega
  have ln:((y :: r).reverse ++ x :: S).length = r.length + S.length + 2:=by simp; omega
  have gx:((y :: r).reverse ++ x :: S).getD (r.length + 1) (0,0,()) = x:=by rw [ed2]; exact zeU (by rw [List.length_append,List.length_reverse,List.length_singleton])
  have gy:((y :: r).reverse ++ x :: S).getD r.length (0,0,()) = y:=by rw [ed]; exact zeU (by rw [List.length_reverse])
  have st:(((y :: r).reverse ++ x :: S).set (r.length + 1) (y.1,y.2.1,())).set r.length (x.1,x.2.1,()) = r.reverse ++ x :: y :: S:=by
   rw [ed2,mid_set (by rw [List.length_append,List.length_reverse,List.length_singleton]),List.append_assoc]
   exact mid_set (by rw [List.length_reverse])
  have c0:decide (((r.length + 1:Nat):Int) > 0) = true:=decide_eq_true (by omega)
  have l1:r.length + 1 < r.length + S.length + 2:=by omega
  have l2:r.length < r.length + S.length + 2:=by omega
  have ih:=zxI f g0 r x (y :: S) i b Z (by omega) (by simp; omega)
  have en1:(((y :: r).length:Nat):Int) = ((r.length + 1:Nat):Int):=rfl
  simp only [en1,c0,en,cond_true,zz_eq,ln,List.length_set,le_cast,lt_cast l1,lt_cast l2,l1,l2,decide_true,Int.toNat_natCast,gx,gy,byv0,Option.bind_some,zvq,keyv0,st]
  unfold revIns
  cases decide (kT x < kT y)
  ·simp only [cond_false]; simp
  ·simp only [cond_true]
   refine ih.trans ?_
   simp
theorem zxJ (f:Nat) (hf:1000 < f) (n:Nat) (hn:n < 1000):∀ (T R:List Knot) (Z:Nat),R.length + T.length = n → T.length < Z →
  iter (zjV f) Z ((R.length:Int),(n:Int),(0:Int),R.reverse ++ T) = some ((sortR kT R T).reverse,())
 | _,_,0,_,h => by omega
 | [],R,Z + 1,hl,_ => by
  rw [iter]
  show zbj f _ _ _ = _
  unfold zbj
  simp only [List.length_nil,Nat.add_zero] at hl
  subst hl
  simp only [zb,decide_false,cond_false,List.append_nil]
  rfl
 | x :: S,R,Z + 1,hl,hfu => by
  simp only [List.length_cons] at hl hfu
  rw [iter]
  show zbj f _ _ _ = _
  unfold zbj
  have l1:R.length < n:=by omega
  simp only [lt_cast l1,decide_true,cond_true]
  rw [zxI f _ R x S _ _ f (by omega) (by omega),w64_up (by omega)]
  have hr:(revIns kT x R).length = R.length + 1:=(ziJ kT x R).length_eq
  have ih:=zxJ f hf n hn S (revIns kT x R) Z (by omega) (by omega)
  rw [hr] at ih
  exact ih
theorem insertionv0 (f:Nat) (hf:1000 < f) (l:List Knot) (hl:l.length < 1000):zge f (l,(),(0:Int),(l.length:Int),()) = some (isort kT l,()):=by
 show iter (zjV f) f (w64 (0 + 1),(l.length:Int),(0:Int),l) = _
 rw [show w64 (0 + 1) = (1:Int) from by decide]
 cases l with
 | nil =>
  obtain ⟨g,rfl⟩:∃ g,f = g + 1:=⟨f - 1,by omega⟩
  rw [iter]
  show zbj _ _ _ _ = _
  unfold zbj
  rfl
 | cons x T =>
  simp only [List.length_cons] at hl
  exact zxJ f hf (T.length + 1) hl T [x] f (by simp; omega) (by omega)
theorem sortv0 (f:Nat) (hf:1000 < f) (l:List Knot) (hl:l.length < 13):zn3 f (l,(),()) = some (isort kT l,()):=by
 have e1:=insertionv0 f hf l (by omega)
 obtain ⟨v,hv⟩:=zxH f l.length hl
 have e2:∀ m:Int,zj0 f (l,(),(0:Int),(l.length:Int),m,()) = some (isort kT l,()):=fun m => by
  show iter (znV f) f _ = _
  obtain ⟨g,hg⟩:∃ g,f = g + 1:=⟨f - 1,by omega⟩
  conv => lhs; arg 2; rw [hg]
  rw [iter]
  show znU f _ _ = _
  unfold znU
  have:decide (w64 ((l.length:Int) - 0) ≤ (12:Int)) = true:=decide_eq_true (by rw [w64_id] <;> omega)
  show cond (decide (w64 ((l.length:Int) - 0) ≤ (12:Int))) (Option.bind (zge f (l,(),(0:Int),(l.length:Int),())) _) _ = _
  rw [this,e1]; rfl
 have e3:znZ f (l,(),()) = some (isort kT l,()):=by
  show znY f l = _
  unfold znY
  rw [hv,Option.bind_some,zz_eq,e2]; rfl
 show zn2 f l = _
 unfold zn2
 rw [e3]; rfl
theorem byv1 (f:Nat) (x y:Knot):znQ f ((x.1,x.2.1,()),(y.1,y.2.1,()),()) = some ((if y.2.1 < x.2.1 then -1 else if y.2.1 > x.2.1 then 1 else 0,()),()):=by
 show znP f x.1 x.2.1 y.1 y.2.1 = _
 unfold znP
 rw [zvp]; rfl
theorem keyv1 (x y:Knot):decide (y.2.1 < x.2.1) = decide (kN x < kN y):=by
 unfold kN
 by_cases h:y.2.1 < x.2.1
 ·have:-x.2.1 < -y.2.1:=by omega
  simp [h,this]
 ·have:¬ -x.2.1 < -y.2.1:=by omega
  simp [h,this]
theorem zxK (f:Nat) (g0:zaH → zA):∀ (R:List Knot) (x:Knot) (S:List Knot) (i b:Int) (Z:Nat),R.length < Z → R.length + S.length < 1000 →
  iter (znT f g0) Z ((R.length:Int),(0:Int),i,b,R.reverse ++ x :: S) = g0 (w64 (i + 1),b,(0:Int),(revIns kN x R).reverse ++ S)
 | _,_,_,_,_,0,h,_ => by omega
 | [],x,S,i,b,Z + 1,_,hl => by
  rw [iter]
  show zdx f g0 _ _ = _
  unfold zdx
  rfl
 | y :: r,x,S,i,b,Z + 1,hf,hl => by
  simp only [List.length_cons] at hf hl
  rw [iter]
  show zdx f g0 _ _ = _
  unfold zdx
  have ed:(y :: r).reverse ++ x :: S = r.reverse ++ y :: x :: S:=by simp
  have ed2:(y :: r).reverse ++ x :: S = (r.reverse ++ [y]) ++ x :: S:=by simp
  have en:w64 (((r.length + 1:Nat):Int) - 1) = (r.length:Int):=by rw [w64_id] <;> omega
  have ln:((y :: r).reverse ++ x :: S).length = r.length + S.length + 2:=by simp; omega
  have gx:((y :: r).reverse ++ x :: S).getD (r.length + 1) (0,0,()) = x:=by rw [ed2]; exact zeU (by rw [List.length_append,List.length_reverse,List.length_singleton])
  have gy:((y :: r).reverse ++ x :: S).getD r.length (0,0,()) = y:=by rw [ed]; exact zeU (by rw [List.length_reverse])
  have st:(((y :: r).reverse ++ x :: S).set (r.length + 1) (y.1,y.2.1,())).set r.length (x.1,x.2.1,()) = r.reverse ++ x :: y :: S:=by
   rw [ed2,mid_set (by rw [List.length_append,List.length_reverse,List.length_singleton]),List.append_assoc]
   exact mid_set (by rw [List.length_reverse])
  have c0:decide (((r.length + 1:Nat):Int) > 0) = true:=decide_eq_true (by omega)
  have l1:r.length + 1 < r.length + S.length + 2:=by omega
  have l2:r.length < r.length + S.length + 2:=by omega
  have ih:=zxK f g0 r x (y :: S) i b Z (by omega) (by simp; omega)
  have en1:(((y :: r).length:Nat):Int) = ((r.length + 1:Nat):Int):=rfl
  simp only [en1,c0,en,cond_true,zz_eq,ln,List.length_set,le_cast,lt_cast l1,lt_cast l2,l1,l2,decide_true,Int.toNat_natCast,gx,gy,byv1,Option.bind_some,zvq,keyv1,st]
  unfold revIns
  cases decide (kN x < kN y)
  ·simp only [cond_false]; simp
  ·simp only [cond_true]
   refine ih.trans ?_
   simp
theorem zxL (f:Nat) (hf:1000 < f) (n:Nat) (hn:n < 1000):∀ (T R:List Knot) (Z:Nat),R.length + T.length = n → T.length < Z →
  iter (zjX f) Z ((R.length:Int),(n:Int),(0:Int),R.reverse ++ T) = some ((sortR kN R T).reverse,())
 | _,_,0,_,h => by omega
 | [],R,Z + 1,hl,_ => by
  rw [iter]
  show zbk f _ _ _ = _
  unfold zbk
  simp only [List.length_nil,Nat.add_zero] at hl
  subst hl
  simp only [zb,decide_false,cond_false,List.append_nil]
  rfl
 | x :: S,R,Z + 1,hl,hfu => by
  simp only [List.length_cons] at hl hfu
  rw [iter]
  show zbk f _ _ _ = _
  unfold zbk
  have l1:R.length < n:=by omega
  simp only [lt_cast l1,decide_true,cond_true]
  rw [zxK f _ R x S _ _ f (by omega) (by omega),w64_up (by omega)]
  have hr:(revIns kN x R).length = R.length + 1:=(ziJ kN x R).length_eq
  have ih:=zxL f hf n hn S (revIns kN x R) Z (by omega) (by omega)
  rw [hr] at ih
  exact ih
theorem insertionv1 (f:Nat) (hf:1000 < f) (l:List Knot) (hl:l.length < 1000):zgf f (l,(),(0:Int),(l.length:Int),()) = some (isort kN l,()):=by
 show iter (zjX f) f (w64 (0 + 1),(l.length:Int),(0:Int),l) = _
 rw [show w64 (0 + 1) = (1:Int) from by decide]
 cases l with
 | nil =>
  obtain ⟨g,rfl⟩:∃ g,f = g + 1:=⟨f - 1,by omega⟩
  rw [iter]
  show zbk _ _ _ _ = _
  unfold zbk
  rfl
 | cons x T =>
  simp only [List.length_cons] at hl
  exact zxL f hf (T.length + 1) hl T [x] f (by simp; omega) (by omega)
theorem sortv1 (f:Nat) (hf:1000 < f) (l:List Knot) (hl:l.length < 13):zn6 f (l,(),()) = some (isort kN l,()):=by
 have e1:=insertionv1 f hf l (by omega)
 obtain ⟨v,hv⟩:=zxH f l.length hl
 have e2:∀ m:Int,zj2 f (l,(),(0:Int),(l.length:Int),m,()) = some (isort kN l,()):=fun m => by
  show iter (znX f) f _ = _
  obtain ⟨g,hg⟩:∃ g,f = g + 1:=⟨f - 1,by omega⟩
  conv => lhs; arg 2; rw [hg]
  rw [iter]
  show znW f _ _ = _
  unfold znW
  have:decide (w64 ((l.length:Int) - 0) ≤ (12:Int)) = true:=decide_eq_true (by rw [w64_id] <;> omega)
  show cond (decide (w64 ((l.length:Int) - 0) ≤ (12:Int))) (Option.bind (zgf f (l,(),(0:Int),(l.length:Int),())) _) _ = _
  rw [this,e1]; rfl
 have e3:zn1 f (l,(),()) = some (isort kN l,()):=by
  show zn0 f l = _
  unfold zn0
  rw [hv,Option.bind_some,zz_eq,e2]; rfl
 show zn5 f l = _
 unfold zn5
 rw [e3]; rfl
def ascK (c:Int → Int):Nat → Int → List Knot
 | 0,_ => []
 | d + 1,i => cond (decide (0 < c i)) ((i,c i,()) :: ascK c d (i + 1)) (ascK c d (i + 1))
theorem zxM:∀ {a b:List Knot} {k:Int},cntK (a ++ b) k = cntK a k + cntK b k
 | [],b,k => by simp [cntK]
 | x :: a,b,k => by
  show _ + cntK (a ++ b) k = _ + cntK a k + _
  rw [zxM]; omega
theorem zxN {a b:List Knot} (h:a.Perm b) (k:Int):cntK a k = cntK b k:=by
 induction h with
 | nil => rfl
 | cons x _ ih => simp only [cntK,ih]
 | swap x y l => simp only [cntK]; omega
 | trans _ _ h1 h2 => rw [h1,h2]
theorem zqt {c e:Int → Int}:∀ {d:Nat} {i:Int},(∀ k,i ≤ k → k < i + d → c k = e k) → ascK c d i = ascK e d i
 | 0,i,_ => rfl
 | d + 1,i,h => by
  unfold ascK
  rw [h i (Int.le_refl _) (by omega),zqt (d:=d) (i:=i + 1) fun k h1 h2 => h k (by omega) (by omega)]
theorem ascK_of {m:Int}:∀ {d:Nat} {i:Int} {l:List Knot},SA l → Pos m l → (∀ x ∈ l,i ≤ x.1) → i + d = 64 → l = ascK (cntK l) d i
 | 0,i,l,hs,hp,hi,hd => by
  cases l with
  | nil => rfl
  | cons x l => have:=hi x (List.mem_cons_self ..); have:=hp x (List.mem_cons_self ..); omega
 | d + 1,i,l,hs,hp,hi,hd => by
  unfold ascK
  cases l with
  | nil =>
   have e:=ascK_of (d:=d) (i:=i + 1) (l:=[]) hs hp (fun x hx => by cases hx) (by omega)
   show [] = cond (decide ((0:Int) < 0)) _ _
   simp only [Int.lt_irrefl,decide_false,cond_false]
   exact e
  | cons x r =>
   have hs':=List.pairwise_cons.1 hs
   have px:=hp x (List.mem_cons_self ..)
   have pr:Pos m r:=fun y hy => hp y (List.mem_cons_of_mem _ hy)
   by_cases hx:x.1 = i
   ·have c0:cntK r i = 0:=zeS fun y hy => by have:=hs'.1 y hy; omega
    have c1:cntK (x :: r) i = x.2.1:=by simp only [cntK,hx,if_true,c0]; omega
    have c2:(0:Int) < x.2.1:=by omega
    have ih:=ascK_of (d:=d) (i:=i + 1) (l:=r) hs'.2 pr (fun y hy => by have:=hs'.1 y hy; omega) (by omega)
    have e:ascK (cntK (x :: r)) d (i + 1) = ascK (cntK r) d (i + 1):=zqt fun k h1 h2 => by
     have:x.1 ≠ k:=by omega
     simp only [cntK,this,if_false]; omega
    subst hx
    simp only [c1,c2,decide_true,cond_true]
    show x :: r = (x.1,x.2.1,()) :: _
    rw [e,← ih]
   ·have hi':∀ y ∈ x :: r,i + 1 ≤ y.1:=fun y hy => by
     have h1:=hi x (List.mem_cons_self ..)
     rcases List.mem_cons.1 hy with rfl | hy
     ·omega
     ·have:=hs'.1 y hy; omega
    have c0:cntK (x :: r) i = 0:=zeS fun y hy => by have:=hi' y hy; omega
    simp only [c0,Int.lt_irrefl,decide_false,cond_false]
    exact ascK_of (d:=d) (i:=i + 1) hs hp hi' (by omega)
theorem zI8 {m n:Int} {a b:List Knot} (ha:SA a) (hb:SA b) (pa:Pos m a) (pb:Pos n b) (h:∀ k,cntK a k = cntK b k):a = b:=by
 rw [ascK_of (d:=64) (i:=0) ha pa (fun x hx => (pa x hx).1) rfl,ascK_of (d:=64) (i:=0) hb pb (fun x hx => (pb x hx).1) rfl]
 exact zqt fun k _ _ => h k
theorem zqu {m:Int} (hm:2000 ≤ m):∀ {b a:List Knot},m + 2000 * b.length ≤ 1000000 → SA a → Pos m a → Pos 2000 b →
  SA (putAll a b) ∧ Pos (m + 2000 * b.length) (putAll a b) ∧ ∀ k,cntK (putAll a b) k = cntK a k + cntK b k
 | [],a,_,hs,hp,_ => ⟨hs,Pos.mono hp (by simp),fun k => by show cntK a k = cntK a k + 0; omega⟩
 | x :: b,a,hb,hs,hp,pb => by
  have px:=pb x (List.mem_cons_self ..)
  simp only [List.length_cons] at hb
  obtain ⟨i1,i2,-,i4⟩:=zqj (m:=m) (t:=x.1) (n:=x.2.1) (p:=-1) ⟨px.1,px.2.1⟩ px.2.2.1 (by omega) (by omega) hs hp (by omega) (fun y hy => by have:=hp y hy; omega)
  obtain ⟨j1,j2,j3⟩:=zqu (m:=m + 2000) (by omega) (b:=b) (a:=putP x.1 x.2.1 a false) (by omega) i1 (i2.mono (by omega)) (fun y hy => pb y (List.mem_cons_of_mem _ hy))
  refine ⟨j1,j2.mono (by simp only [List.length_cons]; omega),fun k => ?_⟩
  show cntK (putAll (putP x.1 x.2.1 a false) b) k = cntK a k + ((if x.1 = k then x.2.1 else 0) + cntK b k)
  rw [j3,i4]; omega
def glue:List Knot → List Knot → List Knot
 | R,[] => R
 | [],x :: S => glue [(x.1,x.2.1,())] S
 | y :: r,x :: S => cond (y.1 == x.1) (glue ((y.1,w64 (y.2.1 + x.2.1),()) :: r) S) (glue ((x.1,x.2.1,()) :: y :: r) S)
def SD (l:List Knot):Prop:=l.Pairwise fun a b => b.1 < a.1
theorem zmH {m:Int} (hm:2000 ≤ m):∀ {L R:List Knot},m + 2000 * L.length ≤ 1000000 → SD R → Pos m R → L.Pairwise (fun a b => a.1 ≤ b.1) → Pos 2000 L → (∀ y ∈ R,∀ x ∈ L,y.1 ≤ x.1) →
  SD (glue R L) ∧ Pos (m + 2000 * L.length) (glue R L) ∧ ∀ k,cntK (glue R L) k = cntK R k + cntK L k
 | [],R,_,hs,hp,_,_,_ => by
  refine ⟨by cases R <;> exact hs,by cases R <;> exact Pos.mono hp (by simp),fun k => ?_⟩
  cases R <;> simp [glue,cntK]
 | x :: S,[],hb,hs,hp,hl,pl,_ => by
  have hl':=List.pairwise_cons.1 hl
  have px:=pl x (List.mem_cons_self ..)
  simp only [List.length_cons] at hb
  obtain ⟨j1,j2,j3⟩:=zmH (m:=m) hm (L:=S) (R:=[(x.1,x.2.1,())]) (by omega) (List.pairwise_singleton _ _) (fun y hy => by
   rcases List.mem_singleton.1 hy with rfl; exact ⟨px.1,px.2.1,px.2.2.1,by show x.2.1 ≤ m; omega⟩) hl'.2 (fun y hy => pl y (List.mem_cons_of_mem _ hy)) (fun y hy z hz => by
   rcases List.mem_singleton.1 hy with rfl; exact hl'.1 z hz)
  refine ⟨j1,j2.mono (by simp only [List.length_cons]; omega),fun k => ?_⟩
  show cntK (glue [(x.1,x.2.1,())] S) k = 0 + ((if x.1 = k then x.2.1 else 0) + cntK S k)
  rw [j3]
  show (if x.1 = k then x.2.1 else 0) + 0 + _ = _
  omega
 | x :: S,y :: r,hb,hs,hp,hl,pl,hyx => by
  have hl':=List.pairwise_cons.1 hl
  have hs':=List.pairwise_cons.1 hs
  have px:=pl x (List.mem_cons_self ..)
  have py:=hp y (List.mem_cons_self ..)
  have yx:=hyx y (List.mem_cons_self ..) x (List.mem_cons_self ..)
  simp only [List.length_cons] at hb
  unfold glue
  by_cases c:y.1 = x.1
  ·have b:(y.1 == x.1) = true:=by simpa using c
   have e:w64 (y.2.1 + x.2.1) = y.2.1 + x.2.1:=by rw [w64_id] <;> omega
   simp only [b,cond_true,e]
   obtain ⟨j1,j2,j3⟩:=zmH (m:=m + 2000) (by omega) (L:=S) (R:=(y.1,y.2.1 + x.2.1,()) :: r) (by omega) (List.pairwise_cons.2 ⟨hs'.1,hs'.2⟩) (fun z hz => by
    rcases List.mem_cons.1 hz with rfl | hz
    ·exact ⟨py.1,py.2.1,by show 1 ≤ y.2.1 + x.2.1; omega,by show y.2.1 + x.2.1 ≤ _; omega⟩
    ·have:=hp z (List.mem_cons_of_mem _ hz); exact ⟨this.1,this.2.1,this.2.2.1,by omega⟩) hl'.2 (fun z hz => pl z (List.mem_cons_of_mem _ hz)) (fun z hz w hw => by
    rcases List.mem_cons.1 hz with rfl | hz
    ·have:=hl'.1 w hw; show y.1 ≤ w.1; omega
    ·have:=hs'.1 z hz; have:=hl'.1 w hw; omega)
   refine ⟨j1,j2.mono (by simp only [List.length_cons]; omega),fun k => ?_⟩
   rw [j3]
   show (if y.1 = k then y.2.1 + x.2.1 else 0) + cntK r k + cntK S k = (if y.1 = k then y.2.1 else 0) + cntK r k + ((if x.1 = k then x.2.1 else 0) + cntK S k)
   rw [c]; split <;> omega
  ·have b:(y.1 == x.1) = false:=by simpa using c
   simp only [b,cond_false]
   obtain ⟨j1,j2,j3⟩:=zmH (m:=m) hm (L:=S) (R:=(x.1,x.2.1,()) :: y :: r) (by omega) (List.pairwise_cons.2 ⟨fun z hz => by
    rcases List.mem_cons.1 hz with rfl | hz
    ·show z.1 < x.1; omega
    ·have:=hs'.1 z hz; show z.1 < x.1; omega,hs⟩) (fun z hz => by
    rcases List.mem_cons.1 hz with rfl | hz
    ·exact ⟨px.1,px.2.1,px.2.2.1,by show x.2.1 ≤ m; omega⟩
    ·exact hp z hz) hl'.2 (fun z hz => pl z (List.mem_cons_of_mem _ hz)) (fun z hz w hw => by
    have hw':=hl'.1 w hw
    rcases List.mem_cons.1 hz with rfl | hz
    ·exact hw'
    ·have:=hyx z hz x (List.mem_cons_self ..); omega)
   refine ⟨j1,j2.mono (by simp only [List.length_cons]; omega),fun k => ?_⟩
   rw [j3]
   show (if x.1 = k then x.2.1 else 0) + ((if y.1 = k then y.2.1 else 0) + cntK r k) + cntK S k = (if y.1 = k then y.2.1 else 0) + cntK r k + ((if x.1 = k then x.2.1 else 0) + cntK S k)
   omega
theorem zmI (f:Nat) (L:List Knot) (hL:L.length < 1000):∀ (d i:Nat) (R:List Knot) (Z:Nat),i + d = L.length → R.length ≤ i → d < Z →
  iter (zka f) Z ((i:Int),(L.length:Int),L,R.reverse) = some (((glue R (L.drop i)).reverse,()),())
 | _,_,_,0,_,_,h => by omega
 | 0,i,R,Z + 1,hi,_,_ => by
  rw [iter]
  show zgs f _ _ = _
  unfold zgs
  obtain rfl:i = L.length:=by omega
  simp only [zb,decide_false,cond_false,List.drop_eq_nil_of_le (Nat.le_refl _)]
  cases R <;> rfl
 | d + 1,i,R,Z + 1,hi,hr,hf => by
  rw [iter]
  show zgs f _ _ = _
  unfold zgs
  have l1:i < L.length:=by omega
  rw [z8 (0,0,()) l1]
  obtain ⟨x,hx⟩:∃ x:Knot,L.getD i (0,0,()) = x:=⟨_,rfl⟩
  simp only [lt_cast l1,zz_eq,le_cast,l1,decide_true,cond_true,Int.toNat_natCast,hx,w64_up (show i < 4294967296 by omega)]
  have h1:R.reverse.length + 1 < LIM:=by simp only [LIM,List.length_reverse]; omega
  cases R with
  | nil =>
   have e1:w64 (((0:Nat):Int) - 1) = -1:=by decide
   have e2:decide ((-1:Int) ≥ 0) = false:=by decide
   have h0:0 + 1 < LIM:=by simp only [LIM]; omega
   have ih:=zmI f L hL d (i + 1) [(x.1,x.2.1,())] Z (by omega) (by simp) (by omega)
   simp only [List.reverse_nil,List.length_nil,e1,e2,cond_false,h0,decide_true,cond_true,List.nil_append]
   exact ih
  | cons y r =>
   have en:w64 (((y :: r).reverse.length:Int) - 1) = (r.length:Int):=by
    rw [List.length_reverse,w64_id] <;> simp only [List.length_cons] at hr ⊢ <;> omega
   have l2:r.length < (y :: r).reverse.length:=by simp
   have ed:(y :: r).reverse = r.reverse ++ y :: []:=by simp
   have gy:(y :: r).reverse.getD r.length (0,0,()) = y:=by rw [ed]; exact zeU (by rw [List.length_reverse])
   have st:∀ z:Knot,(y :: r).reverse.set r.length z = (z :: r).reverse:=fun z => by rw [ed,mid_set (by rw [List.length_reverse])]; simp
   have c0:decide ((r.length:Int) ≥ 0) = true:=decide_eq_true (by omega)
   have ih1:=zmI f L hL d (i + 1) ((y.1,w64 (y.2.1 + x.2.1),()) :: r) Z (by omega) (by simp only [List.length_cons] at hr ⊢; omega) (by omega)
   have ih2:=zmI f L hL d (i + 1) ((x.1,x.2.1,()) :: y :: r) Z (by omega) (by simp only [List.length_cons] at hr ⊢; omega) (by omega)
   simp only [en,c0,le_cast,lt_cast l2,l2,decide_true,cond_true,Int.toNat_natCast,gy,st,h1]
   unfold glue
   cases (y.1 == x.1)
   ·simp only [cond_false]
    rw [← ih2]
    simp
   ·simp only [cond_true]
    exact ih1
theorem zI9 (f:Nat) (a b:List Knot) (hf:1000 < f) (ha:a.length ≤ 8) (hb:b.length ≤ 8):zj8 f (([a,b],()),()) = some ((a ++ b,()),()):=by
 obtain ⟨g,rfl⟩:∃ g,f = g + 3:=⟨f - 3,by omega⟩
 have grow:∀ n:Nat,n ≤ 16 → zn9 (g + 3) ((n:Int),()) = some ([],()):=fun n hn => by
  show zn8 (g + 3) (n:Int) = _
  unfold zn8
  have e1:¬ ((n:Int) < 0):=by omega
  have e2:w64 ((n:Int) - w64 (0 - zz 0)) = (n:Int):=by
   rw [show w64 (0 - zz 0) = 0 from by decide,w64_id] <;> omega
  have e3:(n:Nat) < LIM:=by simp only [LIM]; omega
  have e4:((zz 0) ≤ (zz (List.length (List.replicate n (Kd.dflt KP))))):=by rw [List.length_replicate,zz_eq,zz_eq]; omega
  simp only [e1,e2,decide_false,cond_false,le_cast,Int.toNat_natCast,e3,decide_true,cond_true,e4]
  cases decide ((n:Int) > 0)
  ·rfl
  ·rfl
 have w1:w64 (0 + (a.length:Int)) = ((a.length:Nat):Int):=by rw [w64_id] <;> omega
 have w2:w64 ((a.length:Int) + (b.length:Int)) = ((a.length + b.length:Nat):Int):=by rw [w64_id] <;> omega
 have n1:¬ ((a.length:Int) < 0):=by omega
 have n2:¬ (((a.length + b.length:Nat):Int) < 0):=by omega
 have s1:([]:List Knot).length + a.length < LIM:=by simp only [LIM,List.length_nil]; omega
 have s2:a.length + b.length < LIM:=by simp only [LIM]; omega
 have l2:([a,b]:List (List Knot)).length = 2:=rfl
 have g0:([a,b]:List (List Knot)).getD 0 [] = a:=rfl
 have g1:([a,b]:List (List Knot)).getD 1 [] = b:=rfl
 show zj7 (g + 3) (iter (zgp (g + 3)) (g + 3)) [a,b] = _
 unfold zj7
 have body:∀ v:zcf,iter (zcg (g + 3)) (g + 3) v = zgo (g + 3) (fun v => zgo (g + 3) (fun v => zgo (g + 3) (iter (zcg (g + 3)) g) v) v) v:=fun v => rfl
 have outer:∀ v:zce,iter (zgp (g + 3)) (g + 3) v = zdC (g + 3) (iter (zcg (g + 3)) (g + 3)) (fun v => zdC (g + 3) (iter (zcg (g + 3)) (g + 3)) (fun v => zdC (g + 3) (iter (zcg (g + 3)) (g + 3)) (iter (zgp (g + 3)) g) v) v) v:=fun v => rfl
 rw [outer]
 unfold zdC
 have z0:w64 (0 + 1) = (1:Int):=by decide
 have z1:w64 (1 + 1) = (2:Int):=by decide
 have k0:decide ((0:Int) < (2:Int)) = true:=rfl
 have k1:decide ((1:Int) < (2:Int)) = true:=rfl
 have k2:decide ((2:Int) < (2:Int)) = false:=rfl
 have k3:decide ((0:Int) ≤ 0) = true:=rfl
 have k4:decide ((0:Int) ≤ 1) = true:=rfl
 have t0:Int.toNat 0 = 0:=rfl
 have t1:Int.toNat 1 = 1:=rfl
 simp only [zz_eq,l2,show ((2:Nat):Int) = 2 from rfl,z0,z1,k0,k1,k2,k3,k4,t0,t1,g0,g1,w1,w2,n1,n2,decide_false,cond_true,cond_false,grow _ (show a.length + b.length ≤ 16 by omega),Option.bind_some,body]
 unfold zgo
 simp only [zz_eq,l2,show ((2:Nat):Int) = 2 from rfl,z0,z1,k0,k1,k2,k3,k4,t0,t1,g0,g1,s1,s2,List.nil_append,decide_true,cond_true,cond_false]
theorem SD.rev {l:List Knot} (h:SD l):SA l.reverse:=List.pairwise_reverse.2 h
theorem Pos.perm {m:Int} {a b:List Knot} (h:Pos m a) (hp:b.Perm a):Pos m b:=fun x hx => h x (hp.mem_iff.1 hx)
theorem both_eq (f:Nat) (a b:List Knot) (hf:1000 < f) (ha:a.length ≤ 4) (hb:b.length ≤ 4) (sa:SA a) (pa:Pos 2000 a) (pb:Pos 2000 b) :
  zkc f ((a,()),(b,()),()) = some ((putAll a b,()),()):=by
 show zkb f (iter (zka f) f) a b = _
 unfold zkb
 have hl:(a ++ b).length ≤ 8:=by rw [List.length_append]; omega
 have hs:(isort kT (a ++ b)).length ≤ 8:=by rw [zqh]; exact hl
 have h1:(isort kT (a ++ b)).length < LIM:=by simp only [LIM]; omega
 rw [zI9 f a b hf (by omega) (by omega),Option.bind_some,sortv0 f hf (a ++ b) (by omega),Option.bind_some]
 simp only [zz_eq,Int.toNat_natCast,le_cast,h1,decide_true,cond_true]
 have gl:=zmI f (isort kT (a ++ b)) (by omega) (isort kT (a ++ b)).length 0 [] f (by omega) (by simp) (by omega)
 refine gl.trans ?_
 have pab:Pos 2000 (a ++ b):=fun x hx => (List.mem_append.1 hx).elim (pa x) (pb x)
 have g:=zmH (m:=2000) (by omega) (L:=isort kT (a ++ b)) (R:=[]) (by omega) List.Pairwise.nil (fun y hy => by cases hy) (zw6 kT (a ++ b)) (pab.perm (ziK kT _)) (fun y hy => by cases hy)
 have p:=zqu (m:=2000) (by omega) (b:=b) (a:=a) (by omega) sa pa pb
 have e:(glue [] (isort kT (a ++ b))).reverse = putAll a b:=by
  refine zI8 g.1.rev p.1 (Pos.perm g.2.1 (List.reverse_perm _)) p.2.1 fun k => ?_
  rw [zxN (List.reverse_perm _),g.2.2,p.2.2,zxN (ziK kT _),zxM]
  show 0 + _ = _; omega
 rw [List.drop_zero,e]
theorem zJa (f:Nat) (l:List Knot) (h:0 < l.length) (hl:l.length < 1000):znK f ((l,()),()) = some ((l,()),()):=by
 show znJ f l = _
 unfold znJ
 have h1:0 + l.length < LIM:=by simp only [LIM]; omega
 simp only [h,h1,decide_true,cond_true,List.nil_append]
theorem zxO (f:Nat) (l:List Knot) (m:Int) (hl:l.length < 1000) (l0:List Knot) (lost all u w:Int):∀ (d i:Nat) (out:List Knot) (Z:Nat),i + d = l.length → out.length ≤ i → d < Z →
  iter (zj4 f) Z ((i:Int),(l.length:Int),l,m,out,l0,lost,all,u,w) = some ((out ++ less3 m (l.drop i),w64 (lost + m),all,()),())
 | _,_,_,0,_,_,h => by omega
 | 0,i,out,Z + 1,hi,ho,hf => by
  rw [iter]
  show zgn f _ _ = _
  unfold zgn
  obtain rfl:i = l.length:=by omega
  simp only [zb,decide_false,cond_false,List.drop_eq_nil_of_le (Nat.le_refl _),less3,List.append_nil]
 | d + 1,i,out,Z + 1,hi,ho,hf => by
  rw [iter]
  show zgn f _ _ = _
  unfold zgn
  have hlt:i < l.length:=by omega
  have ih:∀ (out:List Knot),out.length ≤ i + 1 → _:=fun out h => zxO f l m hl l0 lost all u w d (i + 1) out Z (by omega) h (by omega)
  have h1:out.length + 1 < LIM:=by simp only [LIM]; omega
  simp only [zz_eq,lt_cast hlt,le_cast,decide_true,cond_true,Int.toNat_natCast,w64_up (show i < 4294967296 by omega),h1]
  rw [z8 (0,0,()) hlt]
  obtain ⟨x,hx⟩:∃ x:Knot,l.getD i (0,0,()) = x:=⟨_,rfl⟩
  simp only [hx]
  have e1:=ih (out ++ [(x.1,w64 (x.2.1 - m),())]) (by simp; omega)
  have e2:=ih out (by omega)
  simp only [e1,e2]
  simp only [less3,List.append_assoc,List.singleton_append,List.cons_append,List.nil_append]
  cases decide (x.2.1 > m) <;> rfl
theorem cut_eq (f:Nat) (hf:1000 < f) (l:List Knot) (lost all:Int) (hl:l.length < 13) (hp:Pos 1000000 l) (h0:0 ≤ lost) (h1:lost ≤ 1000000):zj6 f ((l,lost,all,()),()) = some (cut3 l lost all,()):=by
 show zj5 f (iter (zj4 f) f) l lost all = _
 unfold zj5 cut3
 by_cases h:l.length ≤ 4
 ·have c:(zz l.length ≤ (4:Int)):=by rw [zz_eq]; omega
  have e:w64 (lost + 0) = lost:=by rw [w64_id] <;> omega
  simp only [c,decide_true,cond_true,zxa h,zql hp,e]
 ·have c:¬ (zz l.length ≤ (4:Int)):=by rw [zz_eq]; omega
  have hs:=zqh kN l
  obtain ⟨a0,a1,a2,a3,a4,r,hr⟩:∃ a0 a1 a2 a3 a4 r,isort kN l = a0 :: a1 :: a2 :: a3 :: a4 :: r:=by
   match hq:isort kN l with
   | [] | [_] | [_,_] | [_,_,_] | [_,_,_,_] => rw [hq] at hs; simp at hs; omega
   | a0 :: a1 :: a2 :: a3 :: a4 :: r => exact ⟨a0,a1,a2,a3,a4,r,rfl⟩
  have fi:=fifth hp hr (by omega)
  rw [zJa f l (by omega) (by omega),Option.bind_some,sortv1 f hf l hl,Option.bind_some]
  have c1:(4:Int) < zz (isort kN l).length:=by rw [zz_eq,hs]; omega
  have c2:Int.toNat 4 < (isort kN l).length:=by rw [hs]; show 4 < _; omega
  have g4:(isort kN l).getD (Int.toNat 4) (0,0,()) = a4:=by rw [hr]; rfl
  simp only [c,c1,c2,decide_true,decide_false,cond_true,cond_false,g4]
  have lp:=zxO f l a4.2.1 (by omega) l lost all 0 0 l.length 0 [] f (by omega) (by simp) (by omega)
  rw [fi.1]
  exact lp
theorem zJb (f:Nat) (hf:1000 < f) (pa:List Knot) (la aa:Int) (pb:List Knot) (lb ab:Int) (ha:pa.length ≤ 4) (hb:pb.length ≤ 4) (sa:SA pa) (ga:Pos 2000 pa) (gb:Pos 2000 pb) (h0:0 ≤ la ∧ la ≤ 2000) (h1:0 ≤ lb ∧ lb ≤ 2000) :
  zoc f ((pa,la,aa,()),(pb,lb,ab,()),()) = some (cut3 (putAll pa pb) (w64 (la + lb)) (w64 (aa + ab)),()):=by
 show zob f pa la aa pb lb ab = _
 unfold zob
 have e:w64 (la + lb) = la + lb:=by rw [w64_id] <;> omega
 have p:=zqu (m:=2000) (by omega) (b:=pb) (a:=pa) (by omega) sa ga gb
 have l8:=zxF pb pa
 rw [both_eq f pa pb hf ha hb sa ga gb,Option.bind_some,cut_eq f hf (putAll pa pb) (w64 (la + lb)) _ (by omega) (p.2.1.mono (by omega)) (by omega) (by omega),Option.bind_some]
theorem zJc (f:Nat) (hf:1000 < f) (ps:List Knot) (lost all t:Int):zoe f ((ps,lost,all,()),(t,()),()) = some ((topAdd ps lost all t).1,((topAdd ps lost all t).2,()),()):=by
 show zod f ps lost all t = _
 unfold zod topAdd
 simp only [zIW f ps lost all (by omega),zeT,Option.bind_some]
 cases h:topB ps lost all
 ·rfl
 cases ht:thingB t
 ·rfl
 have b:=zw8 h
 have tt:=zeP ht
 by_cases c:all = 2000
 ·have c1:(all == 2000) = true:=by simpa using c
  have c2:¬ all < 2000:=by omega
  simp only [c1,c2,decide_false,Bool.not_true,cond_false,cond_true,Bool.and_false]
  rfl
 ·have c1:(all == 2000) = false:=by simpa using c
  have c2:all < 2000:=by omega
  have e:=zJb f hf ps lost all [(t,1,())] 0 1 (by omega) (by simp) b.1 b.2.1 (fun x hx => by rcases List.mem_singleton.1 hx with rfl; exact ⟨tt.1,tt.2,by show (1:Int) ≤ 1; omega,by show (1:Int) ≤ 2000; omega⟩) (by omega) (by omega)
  have e0:w64 (lost + 0) = lost:=by rw [w64_id] <;> omega
  rw [e0,show putAll ps [(t,1,())] = putP t 1 ps false from rfl] at e
  simp only [c1,c2,decide_true,Bool.not_true,cond_false,cond_true,Bool.and_self,e,Option.bind_some]
theorem zJd (f:Nat) (ks:List Knot) (all t:Int) (hl:ks.length < 2147483648) (hf:ks.length < f) (hf2:128 < f):zkk f ((ks,all,()),(t,()),()) = some ((rankAdd ks all t).1,((rankAdd ks all t).2,()),()):=by
 rw [zI2 f ks all t hl hf hf2]; unfold rankAdd
 cases addB ks all t <;> rfl
theorem zxP (f:Nat) (hf:1000 < f) (s:SumD) (t:Int) (h:Form s) (hk:s.2.2.2.2.2.1.length ≤ 128):zgG f (s,(t,()),()) = some ((sumAdd s t).1,((sumAdd s t).2,()),()):=by
 obtain ⟨rs,ms,ps,lost,tall,ks,rall,⟨⟩⟩:=s
 have hr:=h.all_rng
 have h1:=h.rough; have h2:=h.few; have h3:=h.top; have h4:=h.rank; have h5:=h.all; have h6:=h.same
 simp only at h1 h2 h3 h4 h5 h6 hr hk
 have e1:znC f ((rs,()),t,()) = some ((((roughAdd rs t 1).1,()),()),(roughAdd rs t 1).2,()):=by
  show znB f rs t = _
  unfold znB
  rw [zI6 f rs t 1 (by omega)]; rfl
 have e2:znI f ((ms,()),t,()) = some ((((fewAdd ms t).1,()),()),(fewAdd ms t).2,()):=by
  show znH f ms t = _
  unfold znH
  rw [zI7 f ms t (by omega)]; rfl
 have e3:zog f ((ps,lost,tall,()),t,()) = some (((topAdd ps lost tall t).1,()),(topAdd ps lost tall t).2,()):=by
  show zof f ps lost tall t = _
  unfold zof
  rw [zJc f hf ps lost tall t]; rfl
 have e4:zop f ((ks,rall,()),t,()) = some (((rankAdd ks rall t).1,()),(rankAdd ks rall t).2,()):=by
  show zoo f ks rall t = _
  unfold zoo
  rw [zJd f ks rall t (by omega) (by omega) (by omega)]; rfl
 show zor f rs ms ps lost tall ks rall t = _
 unfold zor
 rw [show zoq f ((rs,ms,ps,lost,tall,ks,rall,()),()) = some ((((rs,()),()),((ms,()),()),((ps,lost,tall,()),()),((ks,rall,()),()),()),()) from rfl,Option.bind_some]
 simp only [e1,Option.bind_some]
 cases ht:thingB t
 ·have:(roughAdd rs t 1).2 = false:=by unfold roughAdd; rw [ht]; simp
  rw [this,zqo (by rw [ht]; simp)]; rfl
 ·by_cases ha:tall < 2000
  ·have r:=zxd (n:=1) h1 ht (by omega) (by rw [h5]; omega)
   have m:=zxl h2 ht
   have p:=zxi h3 ht ha
   have k:=zxj h4 ht (by omega)
   have hB:=zqn.2 h
   rw [r.1]
   simp only [Bool.not_true,cond_false,e2,Option.bind_some,m.1,e3,p.1,e4,k.1]
   unfold sumAdd
   simp only [hB,ht,ha,decide_true,Bool.and_self,cond_true]
   rfl
  ·have:(roughAdd rs t 1).2 = false:=by
    have ew:w64 (2000 - isum (rs.getD 0 [])) = 2000 - tall:=by
     rw [← h5,allR_eq h1,w64_id] <;> · have:=allR_eq h1; omega
    have n:¬ ((0:Int) ≤ 1 ∧ (1:Int) ≤ 2000 - tall):=by omega
    unfold roughAdd; rw [ew]; simp only [n,decide_false,Bool.and_false,cond_false]
   rw [this,zqo (by
    have:¬ allOf (rs,ms,ps,lost,tall,ks,rall,()) < 2000:=ha
    simp [this])]; rfl
end Go.Proofs.YtljojacnjjgceaaGreat.Den
namespace Go.Proofs.YtljojacnjjgceaaGreat.Den
open Go Go.RowKit
noncomputable def dcd (p:Prop):Bool:=@decide p (Classical.propDecidable p)
theorem dcd_iff {p:Prop}:dcd p = true ↔ p:=@decide_eq_true_iff p (Classical.propDecidable p)
theorem dcd_pos {p:Prop} (h:p):dcd p = true:=dcd_iff.2 h
theorem dcd_neg {p:Prop} (h:¬ p):dcd p = false:=by
 cases e:dcd p with
 | false => rfl
 | true => exact absurd (dcd_iff.1 e) h
theorem zu {p q:Prop} (h:p ↔ q):dcd p = dcd q:=by rw [propext h]
theorem dcd_dec {p:Prop} [Decidable p]:decide p = dcd p:=by
 by_cases h:p
 ·rw [decide_eq_true h,dcd_pos h]
 ·rw [decide_eq_false h,dcd_neg h]
theorem zw {p:Prop} {α:Type} {x y r:α} (h1:p → x = r) (h2:¬ p → y = r):cond (dcd p) x y = r:=by
 by_cases h:p
 ·rw [dcd_pos h]; exact h1 h
 ·rw [dcd_neg h]; exact h2 h
def deep (s:SumD):SY:=((s.1,()),(s.2.1,()),(s.2.2.1,s.2.2.2.1,s.2.2.2.2.1,()),(s.2.2.2.2.2.1,s.2.2.2.2.2.2.1,()),())
def flat (y:SY):SumD:=(y.1.1,y.2.1.1,y.2.2.1.1,y.2.2.1.2.1,y.2.2.1.2.2.1,y.2.2.2.1.1,y.2.2.2.1.2.1,())
abbrev N0d:NY:=(0,([],(0,(0,(0,())))))
abbrev E0d:EY:=(0,(0,(0,((([],()),(([],()),(([],(0,(0,()))),(([],(0,())),())))),()))))
abbrev W0d:WY:=(0,(0,(0,(0,(0,([],()))))))
abbrev nd (N:List NY) (i:Nat):NY:=List.getD N i N0d
abbrev pst (P:List (List (List Int))) (a b:Nat):List Int:=List.getD (List.getD P a []) b []
structure EntT (N:List NY) (P:List (List (List Int))) (e:EY):Prop where
 node:0 ≤ e.1 ∧ e.1 ≤ 4
 born:1 ≤ e.2.1 ∧ e.2.1 ≤ (nd N e.1.toNat).1
 num:0 ≤ e.2.2.1 ∧ e.2.2.1 ≤ ((pst P e.1.toNat e.2.1.toNat).length:Int)
 fine:(sumOf ((pst P e.1.toNat e.2.1.toNat).take e.2.2.1.toNat)).2 = true
 sum:(sumOf ((pst P e.1.toNat e.2.1.toNat).take e.2.2.1.toNat)).1 = flat e.2.2.2.1
def KnT (N:List NY) (P:List (List (List Int))) (l:List EY):Prop:=(∀ e ∈ l,EntT N P e) ∧ l.Pairwise fun a b => a.1 < b.1
def own (l:List EY) (i:Int):Option EY:=l.find? fun e => e.1 == i
structure PastT (N:List NY) (P:List (List (List Int))) (a:Nat):Prop where
 len:((List.getD P a []).length:Int) = (nd N a).1 + 1
 zero:pst P a 0 = []
 rows:∀ r ∈ List.getD P a [],(∀ t ∈ r,thingB t = true) ∧ r.length ≤ 100
structure RootT (x:NY):Prop where
 level:x.2.2.2.1 = 0
 up:x.2.2.2.2.1 = -1
 beacon:0 ≤ x.2.2.1
structure LeafT (b0:Int) (i:Nat) (x:NY):Prop where
 beacon:0 ≤ x.2.2.1 ∧ x.2.2.1 ≤ b0
 level:1 ≤ x.2.2.2.1 ∧ x.2.2.2.1 ≤ 5
 far:x.2.2.2.2.1 = -1 ↔ x.2.2.2.1 = 5
 up:-1 ≤ x.2.2.2.2.1 ∧ x.2.2.2.2.1 ≤ 4
 ne:x.2.2.2.2.1 ≠ (i:Int)
structure NodeT (N:List NY) (P:List (List (List Int))) (i:Nat):Prop where
 own:∃ e,own (nd N i).2.1 (i:Int) = some e ∧ e.2.1 = (nd N i).1 ∧ e.2.2.1 = ((pst P i (nd N i).1.toNat).length:Int)
 known:KnT N P (nd N i).2.1
 root:i = 0 → RootT (nd N i)
 leaf:i ≠ 0 → LeafT (nd N 0).2.2.1 i (nd N i)
structure WordT (N:List NY) (P:List (List (List Int))) (w:WY):Prop where
 from_:0 ≤ w.2.1 ∧ w.2.1 ≤ 4
 to_:0 ≤ w.2.2.1 ∧ w.2.2.1 ≤ 4
 ne:w.2.1 ≠ w.2.2.1
 kind:(w.1 = 1 ∧ (0 ≤ w.2.2.2.1 ∧ w.2.2.2.1 ≤ (nd N 0).2.2.1) ∧ (0 ≤ w.2.2.2.2.1 ∧ w.2.2.2.2.1 ≤ 4) ∧ w.2.2.2.2.2.1 = []) ∨ (w.1 = 2 ∧ w.2.2.2.1 = 0 ∧ w.2.2.2.2.1 = 0 ∧ KnT N P w.2.2.2.2.2.1)
structure LinkT (L:List Bool) (a:Nat):Prop where
 self:List.getD L (a * 5 + a) false = false
 sym:∀ b,b < a → List.getD L (a * 5 + b) false = List.getD L (b * 5 + a) false
structure NetT (N:List NY) (L:List Bool) (W:List WY) (P:List (List (List Int))):Prop where
 nodes:N.length = 5
 pasts:P.length = 5
 links:L.length = 25
 words:W.length ≤ 24
 born:∀ a,a < 5 → 1 ≤ (nd N a).1 ∧ (nd N a).1 ≤ 20
 past:∀ a,a < 5 → PastT N P a
 link:∀ a,a < 5 → LinkT L a
 node:∀ a,a < 5 → NodeT N P a
 word:∀ w ∈ W,WordT N P w
 beacon:(nd N 0).2.2.1 ≤ 1000
structure Fr (N:List NY) (P:List (List (List Int))):Prop where
 nodes:N.length = 5
 pasts:P.length = 5
 born:∀ a,a < 5 → 1 ≤ (nd N a).1 ∧ (nd N a).1 ≤ 20
 past:∀ a,a < 5 → PastT N P a
theorem NetT.fr {N:List NY} {L:List Bool} {W:List WY} {P:List (List (List Int))} (h:NetT N L W P):Fr N P:=⟨h.nodes,h.pasts,h.born,h.past⟩
def SmallE (n:Nat) (l:List EY):Prop:=l.length ≤ n ∧ ∀ e ∈ l,SmallS (flat e.2.2.2.1) n
structure SmallN (n:Nat) (N:List NY) (L:List Bool) (W:List WY) (P:List (List (List Int))):Prop where
 nodes:N.length ≤ n
 known:∀ x ∈ N,SmallE n x.2.1
 links:L.length ≤ n
 words:W.length ≤ n
 said:∀ w ∈ W,SmallE n w.2.2.2.2.2.1
 pasts:P.length ≤ n
 past:∀ p ∈ P,p.length ≤ n ∧ ∀ r ∈ p,r.length ≤ n
theorem zD {α:Type} {l:List α} {i:Nat} (d:α) (h:i < l.length):List.getD l i d ∈ l:=by
 rw [List.getD_eq_getElem?_getD,List.getElem?_eq_getElem h]; exact List.getElem_mem h
theorem pst_row {N:List NY} {P:List (List (List Int))} {a:Nat} (h:PastT N P a) {b:Nat} (hb:(b:Int) ≤ (nd N a).1):(∀ t ∈ pst P a b,thingB t = true) ∧ (pst P a b).length ≤ 100 :=
 h.rows _ (zD [] (by have:=h.len; omega))
section
variable {R:Type}
theorem zip_up {α:Type} (a b:List α) (d0:α) (hl:a.length = b.length) (t:α → α → Bool) (ht:∀ x y,t x y = true ↔ x ≠ y) (fin:Unit → Option R) (r0:R):∀ (d i:Nat),i + d = a.length →
  upGo (σ:=Unit) (fun i k s => cond (t (List.getD a i d0) (List.getD b i d0)) (some r0) (k s)) fin d i () = cond (dcd (a.drop i = b.drop i)) (fin ()) (some r0)
 | 0,i,h => by
  rw [List.drop_eq_nil_of_le (by omega),List.drop_eq_nil_of_le (by omega),dcd_pos rfl]; rfl
 | d + 1,i,h => by
  show cond (t _ _) (some r0) (upGo _ fin d (i + 1) ()) = _
  rw [zip_up a b d0 hl t ht fin r0 d (i + 1) (by omega),z8 d0 (show i < a.length by omega),z8 d0 (show i < b.length by omega)]
  by_cases h1:List.getD a i d0 = List.getD b i d0
  ·have h2:t (List.getD a i d0) (List.getD b i d0) = false:=by
    cases e:t (List.getD a i d0) (List.getD b i d0) with
    | false => rfl
    | true => exact absurd h1 ((ht _ _).1 e)
   rw [h2,cond_false]
   congr 1
   refine zu ⟨fun h => by rw [h1,h],fun h => ?_⟩
   exact (List.cons.inj h).2
  ·rw [(ht _ _).2 h1,cond_true,dcd_neg fun h => h1 (List.cons.inj h).1,cond_false]
theorem zip0 {α:Type} (a b:List α) (d0:α) (hl:a.length = b.length) (t:α → α → Bool) (ht:∀ x y,t x y = true ↔ x ≠ y) (fin:Unit → Option R) (r0:R) :
  upGo (σ:=Unit) (fun i k s => cond (t (List.getD a i d0) (List.getD b i d0)) (some r0) (k s)) fin a.length 0 () = cond (dcd (a = b)) (fin ()) (some r0):=by
 rw [zip_up a b d0 hl t ht fin r0 a.length 0 (by omega)]
 rfl
theorem up_all {p:Nat → Prop} (fin:Unit → Option R) (r0:R):∀ (d i:Nat),
  upGo (σ:=Unit) (fun i k s => cond (dcd (p i)) (k s) (some r0)) fin d i () = cond (dcd (∀ j,i ≤ j → j < i + d → p j)) (fin ()) (some r0)
 | 0,i => by rw [dcd_pos fun j h1 h2 => by omega]; rfl
 | d + 1,i => by
  show cond (dcd (p i)) (upGo _ fin d (i + 1) ()) (some r0) = _
  rw [up_all fin r0 d (i + 1)]
  by_cases h:p i
  ·rw [dcd_pos h,cond_true]
   congr 1
   refine zu ⟨fun h1 j h2 h3 => ?_,fun h1 j h2 h3 => h1 j (by omega) (by omega)⟩
   rcases Nat.eq_or_lt_of_le h2 with h4 | h4
   ·subst h4; exact h
   ·exact h1 j (by omega) (by omega)
  ·rw [dcd_neg h,cond_false,dcd_neg fun h1 => h (h1 i (by omega) (by omega)),cond_false]
theorem zqv {α:Type} {p:α → Prop} (fin:Unit → Option R) (r0:R) (l:List α):goL (σ:=Unit) (fun x k s => cond (dcd (p x)) (k s) (some r0)) fin l () = cond (dcd (∀ x ∈ l,p x)) (fin ()) (some r0):=by
 rw [all_go (fun x => dcd (p x)) r0 (fun _ _ _ => rfl)]
 congr 1
 cases e:l.all fun x => dcd (p x) with
 | true => exact (dcd_pos fun x hx => dcd_iff.1 (List.all_eq_true.1 e x hx)).symm
 | false =>
  refine (dcd_neg fun h => ?_).symm
  rw [List.all_eq_true.2 fun x hx => dcd_pos (h x hx)] at e
  cases e
end
theorem same_eq (f:Nat) (a b:List Int) (hl:a.length < 4294967296) (hf:a.length < f):zfM f ((a,()),(b,()),()) = some ((dcd (a = b),()),()):=by
 show zjq f (iter (zjp f) f) a b = _
 unfold zjq
 by_cases h:a.length = b.length
 ·have e:(zz a.length != zz b.length) = false:=by simp [zz_eq,h]
  rw [e,cond_false]
  refine (iter_up (st:=zjp f) (enc:=fun i (s:Unit) => ((i:Int),a,b)) (body:=fun i k s => cond (List.getD a i 0 != List.getD b i 0) (some ((false,()),())) (k s)) (fin:=fun _ => some ((true,()),())) a.length ?_ ?_ a.length 0 () f (by omega) hf).trans ?_
  ·intro i s g hi
   show zfL f g _ = _
   unfold zfL
   simp only [zz_eq,lt_cast hi,lt_cast (h ▸ hi:i < b.length),le_cast,decide_true,cond_true,Int.toNat_natCast,w64_up (show i < 4294967296 by omega)]
  ·intro s g
   show zfL f g _ = _
   unfold zfL
   simp only [zz_eq,zb,decide_false,cond_false]
  ·rw [zip0 a b 0 h (fun x y => x != y) (fun x y => by simp)]
   exact zw (fun h => by rw [dcd_pos h]) fun h => by rw [dcd_neg h]
 ·have e:(zz a.length != zz b.length) = true:=by simp [zz_eq]; omega
  rw [e,cond_true,dcd_neg fun e => h (by rw [e])]
theorem knot_ne (x y:Knot):(!(x.1 == y.1 && (x.2.1 == y.2.1 && true))) = true ↔ x ≠ y:=by
 obtain ⟨a,b,⟨⟩⟩:=x
 obtain ⟨c,d,⟨⟩⟩:=y
 by_cases h:a = c <;> simp [h]
theorem sums_eq (f:Nat) (a b:SumD) {n:Nat} (ha:SmallS a n) (hn:n < 1000000000) (hf:n < f):zjv f (a,b,()) = some ((dcd (a = b),()),()):=by
 obtain ⟨x0,x1,x2,x3,x4,x5,x6,⟨⟩⟩:=a
 obtain ⟨x7,x8,x9,x10,x11,x12,x13,⟨⟩⟩:=b
 have h1:=ha.rows; have h2:=ha.row; have h3:=ha.marks; have h4:=ha.pairs; have h5:=ha.knots
 simp only at h1 h2 h3 h4 h5
 show zju f (iter (zjt f) f) x0 x1 x2 x3 x4 x5 x6 x7 x8 x9 x10 x11 x12 x13 = _
 unfold zju
 have no:∀ {p:Prop},¬ p → ((x0,x1,x2,x3,x4,x5,x6,()) = (x7,x8,x9,x10,x11,x12,x13,()) → p) → dcd ((x0,x1,x2,x3,x4,x5,x6,()) = (x7,x8,x9,x10,x11,x12,x13,())) = false:=fun h1 h2 => dcd_neg fun e => h1 (h2 e)
 by_cases c0:x0.length = x7.length
 rotate_left
 ·rw [show (zz x0.length != zz x7.length) = true by simp [zz_eq]; omega,cond_true,no c0 fun e => by rw [(Prod.mk.inj e).1]]
 rw [show (zz x0.length != zz x7.length) = false by simp [zz_eq,c0],cond_false,same_eq f x1 x8 (by omega) (by omega),Option.bind_some]
 by_cases c1:x1 = x8
 rotate_left
 ·simp only [dcd_neg c1,Bool.not_false,cond_true]
  rw [no c1 fun e => by simp only [Prod.mk.injEq] at e; exact e.2.1]
 simp only [dcd_pos c1,Bool.not_true,cond_false]
 by_cases c3:x3 = x10
 rotate_left
 ·rw [show (x3 != x10) = true by simpa using c3,cond_true,no c3 fun e => by simp only [Prod.mk.injEq] at e; exact e.2.2.2.1]
 rw [show (x3 != x10) = false by simp [c3],cond_false]
 by_cases c4:x4 = x11
 rotate_left
 ·rw [show (x4 != x11) = true by simpa using c4,cond_true,no c4 fun e => by simp only [Prod.mk.injEq] at e; exact e.2.2.2.2.1]
 rw [show (x4 != x11) = false by simp [c4],cond_false]
 by_cases c6:x6 = x13
 rotate_left
 ·rw [show (x6 != x13) = true by simpa using c6,cond_true,no c6 fun e => by simp only [Prod.mk.injEq] at e; exact e.2.2.2.2.2.2.1]
 rw [show (x6 != x13) = false by simp [c6],cond_false]
 by_cases c2:x2.length = x9.length
 rotate_left
 ·rw [show (zz x2.length != zz x9.length) = true by simp [zz_eq]; omega,cond_true,no c2 fun e => by simp only [Prod.mk.injEq] at e; rw [e.2.2.1]]
 rw [show (zz x2.length != zz x9.length) = false by simp [zz_eq,c2],cond_false]
 by_cases c5:x5.length = x12.length
 rotate_left
 ·rw [show (zz x5.length != zz x12.length) = true by simp [zz_eq]; omega,cond_true,no c5 fun e => by simp only [Prod.mk.injEq] at e; rw [e.2.2.2.2.2.1]]
 rw [show (zz x5.length != zz x12.length) = false by simp [zz_eq,c5],cond_false]
 let tl:Int → Int × List (List Int) × List Int × LP × Int × Int × LP × Int × List (List Int) × List Int × LP × Int × Int × LP × Int:=fun i => (i,x0,x1,x2,x3,x4,x5,x6,x7,x8,x9,x10,x11,x12,x13)
 -- the third loop
 have l2:iter (zjr f) f (tl 0) = cond (dcd (x5 = x12)) (some ((true,()),())) (some ((false,()),())):=by
  refine (iter_up (st:=zjr f) (enc:=fun i (s:Unit) => tl (i:Int)) (body:=fun i k s => cond (!((List.getD x5 i (0,(0,()))).1 == (List.getD x12 i (0,(0,()))).1 && ((List.getD x5 i (0,(0,()))).2.1 == (List.getD x12 i (0,(0,()))).2.1 && true))) (some ((false,()),())) (k s)) (fin:=fun _ => some ((true,()),())) x5.length ?_ ?_ x5.length 0 () f (by omega) (by omega)).trans ?_
  ·intro i s g hi
   show zfN f g _ = _
   unfold zfN
   simp only [tl,zz_eq,lt_cast hi,lt_cast (c5 ▸ hi:i < x12.length),le_cast,decide_true,cond_true,Int.toNat_natCast,w64_up (show i < 4294967296 by omega)]
  ·intro s g
   show zfN f g _ = _
   unfold zfN
   simp only [tl,zz_eq,zb,decide_false,cond_false]
  ·rw [zip0 x5 x12 (0,(0,())) c5 (fun x y => !(x.1 == y.1 && (x.2.1 == y.2.1 && true))) knot_ne]
 have l1:iter (zjs f) f (tl 0) = cond (dcd (x2 = x9)) (cond (dcd (x5 = x12)) (some ((true,()),())) (some ((false,()),()))) (some ((false,()),())):=by
  refine (iter_up (st:=zjs f) (enc:=fun i (s:Unit) => tl (i:Int)) (body:=fun i k s => cond (!((List.getD x2 i (0,(0,()))).1 == (List.getD x9 i (0,(0,()))).1 && ((List.getD x2 i (0,(0,()))).2.1 == (List.getD x9 i (0,(0,()))).2.1 && true))) (some ((false,()),())) (k s)) (fin:=fun _ => cond (dcd (x5 = x12)) (some ((true,()),())) (some ((false,()),()))) x2.length ?_ ?_ x2.length 0 () f (by omega) (by omega)).trans ?_
  ·intro i s g hi
   show zda f _ g _ = _
   unfold zda
   simp only [tl,zz_eq,lt_cast hi,lt_cast (c2 ▸ hi:i < x9.length),le_cast,decide_true,cond_true,Int.toNat_natCast,w64_up (show i < 4294967296 by omega)]
  ·intro s g
   show zda f _ g _ = _
   unfold zda
   simp only [tl,zz_eq,zb,decide_false,cond_false]
   exact l2
  ·rw [zip0 x2 x9 (0,(0,())) c2 (fun x y => !(x.1 == y.1 && (x.2.1 == y.2.1 && true))) knot_ne]
 refine (iter_up (st:=zjt f) (enc:=fun i (s:Unit) => tl (i:Int)) (body:=fun i k s => cond (!dcd (List.getD x0 i [] = List.getD x7 i [])) (some ((false,()),())) (k s)) (fin:=fun _ => cond (dcd (x2 = x9)) (cond (dcd (x5 = x12)) (some ((true,()),())) (some ((false,()),()))) (some ((false,()),()))) x0.length ?_ ?_ x0.length 0 () f (by omega) (by omega)).trans ?_
 ·intro i s g hi
  show zdb f _ g _ = _
  unfold zdb
  have hr:=h2 (List.getD x0 i []) (zD [] hi)
  simp only [tl,zz_eq,lt_cast hi,lt_cast (c0 ▸ hi:i < x7.length),le_cast,decide_true,cond_true,Int.toNat_natCast,w64_up (show i < 4294967296 by omega),same_eq f (List.getD x0 i []) (List.getD x7 i []) (by omega) (by omega),Option.bind_some]
 ·intro s g
  show zdb f _ g _ = _
  unfold zdb
  simp only [tl,zz_eq,zb,decide_false,cond_false]
  exact l1
 ·rw [zip0 x0 x7 [] c0 (fun x y => !dcd (x = y)) (fun x y => by
   by_cases h:x = y
   ·rw [dcd_pos h]; simp [h]
   ·rw [dcd_neg h]; simp [h])]
  refine zw (fun e0 => zw (fun e2 => zw (fun e5 => ?_) fun e5 => ?_) fun e2 => ?_) fun e0 => ?_
  ·rw [dcd_pos (by rw [e0,c1,e2,c3,c4,e5,c6])]
  ·rw [no e5 fun e => by simp only [Prod.mk.injEq] at e; exact e.2.2.2.2.2.1]
  ·rw [no e2 fun e => by simp only [Prod.mk.injEq] at e; exact e.2.2.1]
  ·rw [no e0 fun e => (Prod.mk.inj e).1]
end Go.Proofs.YtljojacnjjgceaaGreat.Den
namespace Go.Proofs.YtljojacnjjgceaaGreat.Den
open Go Go.RowKit
theorem in_dcd (f:Nat) (n lo hi:Int):zf f ((n,()),(lo,()),(hi,()),()) = some ((dcd (lo ≤ n ∧ n ≤ hi),()),()):=by rw [in_eq,dcd_dec]
theorem zmJ:w64 ((5:Int) - 1) = 4:=by rw [w64_id] <;> omega
section
variable {f:Nat} {N:List NY} {L:List Bool} {W:List WY} {P:List (List (List Int))}
theorem zJe (hf:1000 < f) (fr:Fr N P) (e:EY) :
  znh f ((N,L,W,P,()),(e.1,e.2.1,e.2.2.1,e.2.2.2.1.1.1,e.2.2.2.1.2.1.1,e.2.2.2.1.2.2.1.1,e.2.2.2.1.2.2.1.2.1,e.2.2.2.1.2.2.1.2.2.1,e.2.2.2.1.2.2.2.1.1,e.2.2.2.1.2.2.2.1.2.1,()),()) = some ((dcd (EntT N P e),()),()):=by
 obtain ⟨x4,x5,x6,y,⟨⟩⟩:=e
 show zng f N L W P x4 x5 x6 y.1.1 y.2.1.1 y.2.2.1.1 y.2.2.1.2.1 y.2.2.1.2.2.1 y.2.2.2.1.1 y.2.2.2.1.2.1 = _
 unfold zng
 simp only [in_dcd,Option.bind_some,zz_eq,fr.nodes,fr.pasts]
 by_cases c1:0 ≤ x4 ∧ x4 ≤ 4
 rotate_left
 ·rw [dcd_neg (fun h:EntT N P (x4,x5,x6,y,()) => c1 h.node),show w64 (((5:Nat):Int) - 1) = 4 from zmJ,dcd_neg c1]; rfl
 rw [show w64 (((5:Nat):Int) - 1) = 4 from zmJ,dcd_pos c1]
 have hi:x4.toNat < 5:=by omega
 have hp:=fr.past _ hi
 have hb:=fr.born _ hi
 simp only [Bool.not_true,cond_false,c1.1,show x4 < ((5:Nat):Int) by omega,decide_true,cond_true]
 by_cases c2:1 ≤ x5 ∧ x5 ≤ (nd N x4.toNat).1
 rotate_left
 ·rw [dcd_neg (fun h:EntT N P (x4,x5,x6,y,()) => c2 h.born),dcd_neg c2]; rfl
 have hx5:(x5.toNat:Int) = x5:=by omega
 have hl:=pst_row hp (b:=x5.toNat) (by omega)
 have hlt:x5 < ((List.getD P x4.toNat []).length:Int):=by have:=hp.len; omega
 simp only [dcd_pos c2,Bool.not_true,cond_false,show (0:Int) ≤ x5 by omega,hlt,decide_true,cond_true]
 by_cases c3:0 ≤ x6 ∧ x6 ≤ ((pst P x4.toNat x5.toNat).length:Int)
 rotate_left
 ·rw [dcd_neg (fun h:EntT N P (x4,x5,x6,y,()) => c3 h.num),dcd_neg c3]; rfl
 rw [dcd_pos c3]
 simp only [Bool.not_true,cond_false,c3.1,c3.2,decide_true,cond_true,List.drop_zero]
 have ht:((pst P x4.toNat x5.toNat).take x6.toNat).length ≤ 100:=by
  rw [List.length_take]; have:=hl.2; omega
 rw [zH5 f ((pst P x4.toNat x5.toNat).take x6.toNat) (by omega) (by omega) (by omega),Option.bind_some]
 cases h4:(sumOf ((pst P x4.toNat x5.toNat).take x6.toNat)).2 with
 | false =>
  simp only [cond_false]
  rw [dcd_neg fun h:EntT N P (x4,x5,x6,y,()) => by have:=h.fine; rw [h4] at this; cases this]
 | true =>
  simp only [cond_true]
  have hs:=sums_eq f (sumOf ((pst P x4.toNat x5.toNat).take x6.toNat)).1 (flat y) (zmE _) (by omega) (by omega)
  refine (congrArg (fun o => Option.bind o _) hs).trans ?_
  rw [Option.bind_some]
  refine congrArg (fun b => some ((b,()),())) (zu ⟨fun h => ⟨c1,c2,c3,h4,h⟩,fun h => h.sum⟩)
def ascP (p:Int):List EY → Prop
 | [] => True
 | x :: l => p < x.1 ∧ ascP x.1 l
theorem ascP_lt:∀ {l:List EY} {p q:Int},q ≤ p → ascP p l → ∀ x ∈ l,q < x.1
 | [],_,_,_,_,x,h => by cases h
 | y :: l,p,q,hq,h,x,hx => by
  obtain ⟨h1,h2⟩:=h
  rcases List.mem_cons.1 hx with rfl | hx
  ·omega
  ·exact ascP_lt (p:=y.1) (by omega) h2 x hx
theorem zqw:∀ {l:List EY} {p:Int},ascP p l ↔ (∀ x ∈ l,p < x.1) ∧ l.Pairwise fun a b => a.1 < b.1
 | [],p => by simp [ascP]
 | y :: l,p => by
  simp only [ascP,List.pairwise_cons]
  constructor
  ·rintro ⟨h1,h2⟩
   refine ⟨fun x hx => ?_,fun x hx => ascP_lt (Int.le_refl _) h2 x hx,(zqw.1 h2).2⟩
   rcases List.mem_cons.1 hx with rfl | hx
   ·exact h1
   ·exact ascP_lt (Int.le_of_lt h1) h2 x hx
  ·rintro ⟨h1,h2,h3⟩
   exact ⟨h1 y (List.mem_cons_self ..),zqw.2 ⟨h2,h3⟩⟩
theorem KnT.iff {l:List EY}:KnT N P l ↔ (∀ e ∈ l,EntT N P e) ∧ ascP (-1) l:=by
 unfold KnT
 rw [zqw]
 refine ⟨fun h => ⟨h.1,fun x hx => ?_,h.2⟩,fun h => ⟨h.1,h.2.2⟩⟩
 have:=(h.1 x hx).node; omega
theorem zxQ (hf:1000 < f) (fr:Fr N P) (l:List EY) (hl:l.length < f) (hl2:l.length < 4294967296):zfR f ((N,L,W,P,()),(l,()),()) = some ((dcd (KnT N P l),()),()):=by
 show iter (zjx f) f ((0:Int),l,N,L,W,P) = _
 refine (zp4 (st:=zjx f) (enc:=fun i (s:Unit) => ((i:Int),l,N,L,W,P)) (fun x p k s => cond (!dcd (EntT N P x)) (some ((false,()),())) (cond (decide (p ≥ x.1)) (some ((false,()),())) (k s))) (fun _ => some ((true,()),())) l E0d (-1:Int) (fun x => x.1) ?_ ?_ f () hl).trans ?_
 ·intro i s g hi
  show zfQ f g _ = _
  unfold zfQ
  simp only [zz_eq,lt_cast hi,le_cast,decide_true,cond_true,Int.toNat_natCast,w64_up (show i < 4294967296 by omega),zJe hf fr,Option.bind_some]
  by_cases c:EntT N P (List.getD l i E0d)
  rotate_left
  ·simp only [dcd_neg c,Bool.not_false,cond_true]
  simp only [dcd_pos c,Bool.not_true,cond_false]
  by_cases hi0:i = 0
  ·subst hi0
   have h2:¬ ((-1:Int) ≥ (List.getD l 0 E0d).1):=by have:=c.node; omega
   simp only [zp5 rfl,decide_false,cond_false,if_true,h2]
  ·simp only [zp6 hi0,w64_dn hi0 (show i < 4294967296 by omega),lt_cast (show i - 1 < l.length by omega),le_cast,decide_true,cond_true,if_neg hi0,Int.toNat_natCast]
 ·intro s g
  show zfQ f g _ = _
  unfold zfQ
  simp only [zz_eq,zb,decide_false,cond_false]
 ·have:∀ (l:List EY) (p:Int),goL (fun x k (ps:Int × Unit) => cond (!dcd (EntT N P x)) (some ((false,()),())) (cond (decide (ps.1 ≥ x.1)) (some ((false,()),())) (k (x.1,ps.2)))) (fun ps => some ((true,()),())) l (p,()) = some ((dcd ((∀ e ∈ l,EntT N P e) ∧ ascP p l),()),()):=by
   intro l
   induction l with
   | nil => intro p; rw [dcd_pos ⟨fun e h => (by cases h),trivial⟩]; rfl
   | cons x l ih =>
    intro p
    show cond (!dcd (EntT N P x)) _ (cond (decide (p ≥ x.1)) _ (goL _ _ l (x.1,()))) = _
    by_cases c:EntT N P x
    rotate_left
    ·rw [dcd_neg c,dcd_neg fun h => c (h.1 x (List.mem_cons_self ..))]; rfl
    rw [dcd_pos c]
    by_cases c2:p < x.1
    rotate_left
    ·rw [decide_eq_true (show p ≥ x.1 by omega),dcd_neg fun h => c2 h.2.1]; rfl
    rw [decide_eq_false (show ¬ p ≥ x.1 by omega),ih]
    simp only [Bool.not_true,cond_false]
    refine congrArg (fun b => some ((b,()),())) (zu ⟨fun h => ⟨fun e he => ?_,c2,h.2⟩,fun h => ⟨fun e he => h.1 e (List.mem_cons_of_mem _ he),h.2.2⟩⟩)
    rcases List.mem_cons.1 he with rfl | he
    ·exact c
    ·exact h.1 e he
  rw [this l (-1),zu KnT.iff]
theorem own_eq (x:NY) (i:Int) (hl:x.2.1.length < f) (hl2:x.2.1.length < 4294967296) :
  zjk f ((x.1,x.2.1,x.2.2.1,x.2.2.2.1,x.2.2.2.2.1,()),(i,()),()) = some (((((own x.2.1 i).getD E0d).1,((own x.2.1 i).getD E0d).2.1,((own x.2.1 i).getD E0d).2.2.1,flat ((own x.2.1 i).getD E0d).2.2.2.1)),((own x.2.1 i).isSome,()),()):=by
 obtain ⟨b,l,be,lv,up,⟨⟩⟩:=x
 show iter (zjj f) f ((0:Int),i,b,l,be,lv,up,(0:Int),(0:Int),(0:Int),(0:Int),(0:Int),(0:Int)) = _
 refine (zt (st:=zjj f) (enc:=fun k (s:Unit) => ((k:Int),i,b,l,be,lv,up,(0:Int),(0:Int),(0:Int),(0:Int),(0:Int),(0:Int))) (fun x k s => cond (x.1 == i) (some ((x.1,x.2.1,x.2.2.1,flat x.2.2.2.1),(true,()),())) (k s)) (fun s => some ((E0d.1,E0d.2.1,E0d.2.2.1,flat E0d.2.2.2.1),(false,()),())) l E0d ?_ ?_ f () hl).trans ?_
 ·intro k s g hi
  show zfH f g _ = _
  unfold zfH
  simp only at hi hl2
  simp only [zz_eq,lt_cast hi,le_cast,decide_true,cond_true,Int.toNat_natCast,w64_up (show k < 4294967296 by omega)]
  rfl
 ·intro s g
  show zfH f g _ = _
  unfold zfH
  simp only [zz_eq,zb,decide_false,cond_false]
  rfl
 ·clear hl hl2
  show goL _ _ l () = some ((((own l i).getD E0d).1,((own l i).getD E0d).2.1,((own l i).getD E0d).2.2.1,flat ((own l i).getD E0d).2.2.2.1),((own l i).isSome,()),())
  induction l with
  | nil => rfl
  | cons x l ih =>
   show cond (x.1 == i) _ (goL _ _ l ()) = _
   unfold own at ih ⊢
   rw [ih,List.find?_cons]
   cases x.1 == i <;> rfl
end
end Go.Proofs.YtljojacnjjgceaaGreat.Den
namespace Go.Proofs.YtljojacnjjgceaaGreat.Den
open Go Go.RowKit
theorem bneF {a b:Int} (h:a = b):(a != b) = false:=by simp [h]
theorem bneT {a b:Int} (h:a ≠ b):(a != b) = true:=by simpa using h
theorem beqT {a b:Int} (h:a = b):(a == b) = true:=by simp [h]
theorem beqF {a b:Int} (h:a ≠ b):(a == b) = false:=by simpa using h
section
variable {f:Nat} {N:List NY} {L:List Bool} {W:List WY} {P:List (List (List Int))}
theorem link_eq (f:Nat) {a b:Nat} (ha:a < 5) (hb:b < 5):zfI f (((a:Int),()),((b:Int),()),()) = some ((((a * 5 + b:Nat):Int),()),()):=by
 show some ((w64 (w64 ((a:Int) * (5:Int)) + (b:Int)),()),()) = _
 rw [w64_id (x:=(a:Int) * 5) (by omega) (by omega),w64_id (by omega) (by omega)]
 congr 3
theorem cst5 {i:Nat} (h:i < 5):(i:Int) < ((5:Nat):Int):=by omega
theorem zmK {i:Nat} (h:i < 5):(i:Int) < 5:=by omega
theorem node_eq (hf:1000 < f) (fr:Fr N P) {i:Nat} (hi:i < 5) (hl:(nd N i).2.1.length < f) (hl2:(nd N i).2.1.length < 4294967296) :
  znj f ((N,L,W,P,()),((i:Int),()),()) = some ((dcd (NodeT N P i),()),()):=by
 show zni f N L W P (i:Int) = _
 unfold zni
 have hb:=fr.born i hi
 have hp:=fr.past i hi
 simp only [zz_eq,fr.nodes,fr.pasts,Int.toNat_natCast,le_cast,cst5 hi,decide_true,cond_true]
 rw [own_eq (nd N i) (i:Int) hl hl2,Option.bind_some]
 cases ho:own (nd N i).2.1 (i:Int) with
 | none =>
  rw [dcd_neg fun h:NodeT N P i => by obtain ⟨e,h1,_⟩:=h.own; rw [ho] at h1; cases h1]
  rfl
 | some e =>
  simp only [Option.isSome_some,Option.getD_some,Bool.not_true,cond_false]
  rw [zxQ hf fr (nd N i).2.1 hl hl2,Option.bind_some]
  by_cases ck:KnT N P (nd N i).2.1
  rotate_left
  ·rw [dcd_neg ck,dcd_neg fun h:NodeT N P i => ck h.known]; rfl
  rw [dcd_pos ck]
  simp only [Bool.not_true,cond_false]
  by_cases cb:e.2.1 = (nd N i).1
  rotate_left
  ·rw [bneT cb,cond_true,dcd_neg fun h:NodeT N P i => by
    obtain ⟨e',h1,h2,_⟩:=h.own
    rw [ho] at h1; cases h1; exact cb h2]
  rw [bneF cb,cond_false]
  have hlt:(nd N i).1 < ((List.getD P i []).length:Int):=by have:=hp.len; omega
  simp only [show (0:Int) ≤ (nd N i).1 by omega,hlt,decide_true,cond_true]
  by_cases cn:e.2.2.1 = ((pst P i (nd N i).1.toNat).length:Int)
  rotate_left
  ·rw [bneT cn,cond_true,dcd_neg fun h:NodeT N P i => by
    obtain ⟨e',h1,_,h2⟩:=h.own
    rw [ho] at h1; cases h1; exact cn h2]
  rw [bneF cn,cond_false]
  by_cases h0:i = 0
  ·subst h0
   rw [show (((0:Nat):Int) == (0:Int)) = true from rfl,cond_true]
   by_cases c1:(nd N 0).2.2.2.1 = 0
   rotate_left
   ·rw [beqF c1,cond_false,dcd_neg fun h:NodeT N P 0 => c1 (h.root rfl).level]
   rw [beqT c1,cond_true]
   by_cases c2:(nd N 0).2.2.2.2.1 = -1
   rotate_left
   ·rw [beqF c2,cond_false,dcd_neg fun h:NodeT N P 0 => c2 (h.root rfl).up]
   rw [beqT c2,cond_true,dcd_dec]
   exact congrArg (fun b => some ((b,()),())) (zu ⟨fun h => ⟨⟨e,ho,cb,cn⟩,ck,fun _ => ⟨c1,c2,h⟩,fun h => absurd rfl h⟩,fun h => (h.root rfl).beacon⟩)
  ·rw [show (((i:Nat):Int) == (0:Int)) = false by simp; omega,cond_false]
   simp only [show (0:Int) < ((5:Nat):Int) by omega,decide_true,cond_true,in_dcd,Option.bind_some,Int.toNat_zero]
   by_cases c1:0 ≤ (nd N i).2.2.1 ∧ (nd N i).2.2.1 ≤ (nd N 0).2.2.1
   rotate_left
   ·rw [dcd_neg c1,cond_false,dcd_neg fun h:NodeT N P i => c1 (h.leaf h0).beacon]
   rw [dcd_pos c1,cond_true]
   by_cases c2:1 ≤ (nd N i).2.2.2.1 ∧ (nd N i).2.2.2.1 ≤ 5
   rotate_left
   ·rw [dcd_neg c2,cond_false,dcd_neg fun h:NodeT N P i => c2 (h.leaf h0).level]
   rw [dcd_pos c2,cond_true]
   by_cases c3:((nd N i).2.2.2.2.1 = -1 ↔ (nd N i).2.2.2.1 = 5)
   rotate_left
   ·have e3:(((nd N i).2.2.2.2.1 == (-1:Int)) == ((nd N i).2.2.2.1 == (5:Int))) = false:=by
     cases e:(((nd N i).2.2.2.2.1 == (-1:Int)) == ((nd N i).2.2.2.1 == (5:Int))) with
     | false => rfl
     | true =>
      refine absurd ?_ c3
      have e':=eq_of_beq e
      constructor
      ·intro h; rw [h] at e'; exact eq_of_beq e'.symm
      ·intro h; rw [h] at e'; exact eq_of_beq e'
    rw [e3,cond_false,dcd_neg fun h:NodeT N P i => c3 (h.leaf h0).far]
   have e3:(((nd N i).2.2.2.2.1 == (-1:Int)) == ((nd N i).2.2.2.1 == (5:Int))) = true:=by
    by_cases h5:(nd N i).2.2.2.1 = 5
    ·rw [c3.2 h5,h5]; rfl
    ·have:(nd N i).2.2.2.2.1 ≠ -1:=fun h => h5 (c3.1 h)
     rw [beq_false_of_ne this,beq_false_of_ne h5]; rfl
   rw [e3,cond_true,show w64 (((5:Nat):Int) - 1) = 4 from zmJ]
   by_cases c4:-1 ≤ (nd N i).2.2.2.2.1 ∧ (nd N i).2.2.2.2.1 ≤ 4
   rotate_left
   ·rw [dcd_neg c4,cond_false,dcd_neg fun h:NodeT N P i => c4 (h.leaf h0).up]
   rw [dcd_pos c4,cond_true]
   refine congrArg (fun b => some ((b,()),())) ?_
   by_cases c5:(nd N i).2.2.2.2.1 = (i:Int)
   ·rw [bneF c5,dcd_neg fun h:NodeT N P i => (h.leaf h0).ne c5]
   ·rw [bneT c5,dcd_pos ⟨⟨e,ho,cb,cn⟩,ck,fun h => absurd h h0,fun _ => ⟨c1,c2,c3,c4,c5⟩⟩]
theorem word_eq (hf:1000 < f) (fr:Fr N P) (w:WY) (hl:w.2.2.2.2.2.1.length < f) (hl2:w.2.2.2.2.2.1.length < 4294967296) :
  znl f ((N,L,W,P,()),(w.1,w.2.1,w.2.2.1,w.2.2.2.1,w.2.2.2.2.1,w.2.2.2.2.2.1,()),()) = some ((dcd (WordT N P w),()),()):=by
 obtain ⟨x4,x5,x6,x7,x8,x9,⟨⟩⟩:=w
 simp only at hl hl2
 show znk f N L W P x4 x5 x6 x7 x8 x9 = _
 unfold znk
 simp only [in_dcd,Option.bind_some,zz_eq,fr.nodes,show w64 (((5:Nat):Int) - 1) = 4 from zmJ]
 have fin:∀ {p:Prop},¬ p → (WordT N P (x4,x5,x6,x7,x8,x9,()) → p) → some ((false,()),()) = some ((dcd (WordT N P (x4,x5,x6,x7,x8,x9,())),()),()):=fun h1 h2 => by rw [dcd_neg fun h => h1 (h2 h)]
 by_cases c1:0 ≤ x5 ∧ x5 ≤ 4
 rotate_left
 ·rw [dcd_neg c1,cond_false]
  cases x4 == (1:Int) <;> cases x4 == (2:Int) <;> exact fin c1 fun h => h.from_
 rw [dcd_pos c1,cond_true]
 by_cases c2:0 ≤ x6 ∧ x6 ≤ 4
 rotate_left
 ·rw [dcd_neg c2,cond_false]
  cases x4 == (1:Int) <;> cases x4 == (2:Int) <;> exact fin c2 fun h => h.to_
 rw [dcd_pos c2,cond_true]
 by_cases k1:x4 = 1
 ·subst k1
  rw [show ((1:Int) == 1) = true from rfl,cond_true]
  by_cases c3:x5 ≠ x6
  rotate_left
  ·rw [bneF (Classical.not_not.1 c3),cond_false]; exact fin c3 fun h => h.ne
  rw [bneT c3,cond_true]
  simp only [show (0:Int) < ((5:Nat):Int) by omega,decide_true,cond_true,Int.toNat_zero]
  have kd:WordT N P (1,x5,x6,x7,x8,x9,()) → (0 ≤ x7 ∧ x7 ≤ (nd N 0).2.2.1) ∧ (0 ≤ x8 ∧ x8 ≤ 4) ∧ x9 = []:=fun h => by
   rcases h.kind with h | h
   ·exact h.2
   ·exact absurd (show _ = _ from h.1) (by simp)
  by_cases c4:0 ≤ x7 ∧ x7 ≤ (nd N 0).2.2.1
  rotate_left
  ·rw [dcd_neg c4,cond_false]; exact fin c4 fun h => (kd h).1
  rw [dcd_pos c4,cond_true]
  by_cases c5:0 ≤ x8 ∧ x8 ≤ 4
  rotate_left
  ·rw [dcd_neg c5,cond_false]; exact fin c5 fun h => (kd h).2.1
  rw [dcd_pos c5,cond_true]
  by_cases c6:x9 = []
  ·subst c6
   rw [dcd_pos ⟨c1,c2,c3,.inl ⟨rfl,c4,c5,rfl⟩⟩]; rfl
  ·rw [show (((x9.length:Nat):Int) == (0:Int)) = false by
    cases x9 with
    | nil => exact absurd rfl c6
    | cons a l => simp; omega]
   exact fin c6 fun h => (kd h).2.2
 ·rw [beqF k1,cond_false]
  by_cases k2:x4 = 2
  rotate_left
  ·rw [beqF k2,cond_false]
   refine fin (p:=x4 = 1 ∨ x4 = 2) (by omega) fun h => ?_
   rcases h.kind with h | h
   ·exact .inl h.1
   ·exact .inr h.1
  subst k2
  rw [show ((2:Int) == 2) = true from rfl,cond_true]
  have kd:WordT N P (2,x5,x6,x7,x8,x9,()) → x7 = 0 ∧ x8 = 0 ∧ KnT N P x9:=fun h => by
   rcases h.kind with h | h
   ·exact absurd (show _ = _ from h.1) (by simp)
   ·exact h.2
  by_cases c3:x5 ≠ x6
  rotate_left
  ·rw [bneF (Classical.not_not.1 c3),cond_false]; exact fin c3 fun h => h.ne
  rw [bneT c3,cond_true]
  by_cases c4:x7 = 0
  rotate_left
  ·rw [beqF c4,cond_false]; exact fin c4 fun h => (kd h).1
  rw [beqT c4,cond_true]
  by_cases c5:x8 = 0
  rotate_left
  ·rw [beqF c5,cond_false]; exact fin c5 fun h => (kd h).2.1
  rw [beqT c5,cond_true,zxQ hf fr x9 hl hl2,Option.bind_some]
  exact congrArg (fun b => some ((b,()),())) (zu ⟨fun h => ⟨c1,c2,c3,.inr ⟨rfl,c4,c5,h⟩⟩,fun h => (kd h).2.2⟩)
theorem past_eq {n:Nat} (hn:n < 1000000000) (hnf:n < f) (hN:N.length = 5) (hP:P.length = 5) {a:Nat} (ha:a < 5) (hb:1 ≤ (nd N a).1 ∧ (nd N a).1 ≤ 20) (hs:∀ p ∈ P,p.length ≤ n ∧ ∀ r ∈ p,r.length ≤ n) :
  zjn f ((N,L,W,P,()),((a:Int),()),()) = some ((dcd (PastT N P a),()),()):=by
 show zjm f (iter (zjl f) f) N L W P (a:Int) = _
 unfold zjm
 obtain ⟨s1,s2⟩:=hs (List.getD P a []) (zD [] (by omega))
 simp only [zz_eq,hN,hP,Int.toNat_natCast,le_cast,cst5 ha,decide_true,cond_true,Int.toNat_zero]
 rw [w64_id (x:=(nd N a).1 + 1) (by omega) (by omega)]
 by_cases c1:((List.getD P a []).length:Int) = (nd N a).1 + 1
 rotate_left
 ·rw [bneT c1,cond_true,dcd_neg fun h:PastT N P a => c1 h.len]
 rw [bneF c1,cond_false]
 simp only [show (0:Int) < ((List.getD P a []).length:Int) by omega,decide_true,cond_true]
 by_cases c2:pst P a 0 = []
 rotate_left
 ·rw [show (((pst P a 0).length:Int) != (0:Int)) = true by
   cases h:pst P a 0 with
   | nil => exact absurd h c2
   | cons x l => simp; omega,cond_true,dcd_neg fun h:PastT N P a => c2 h.zero]
 rw [show (((pst P a 0).length:Int) != (0:Int)) = false by rw [c2]; rfl,cond_false]
 let Rw:Nat → Prop:=fun i => (∀ t ∈ pst P a i,thingB t = true) ∧ (pst P a i).length ≤ 100
 refine (iter_up (st:=zjl f) (enc:=fun i (s:Unit) => ((i:Int),(a:Int),N,L,W,P)) (body:=fun i k s => cond (dcd (Rw i)) (k s) (some ((false,()),()))) (fin:=fun _ => some ((true,()),())) (List.getD P a []).length ?_ ?_ (List.getD P a []).length 0 () f (by omega) (by omega)).trans ?_
 ·intro i s g hi
  show zc3 f _ g _ = _
  unfold zc3
  simp only [zz_eq,hP,cst5 ha,lt_cast hi,le_cast,decide_true,cond_true,Int.toNat_natCast]
  have hr:=s2 (pst P a i) (zD [] hi)
  refine (zt (st:=znd f g) (enc:=fun k (s:Unit) => ((k:Int),(a:Int),(i:Int),N,L,W,P)) (fun x k s => cond (dcd (thingB x = true)) (k s) (some ((false,()),()))) (fun s => cond (decide ((pst P a i).length ≤ 100)) (g (((i + 1:Nat):Int),(a:Int),N,L,W,P)) (some ((false,()),()))) (pst P a i) 0 ?_ ?_ f () (by omega)).trans ?_
  ·intro k s g' hk
   show zc2 f _ g' _ = _
   unfold zc2
   simp only [zz_eq,hP,cst5 ha,lt_cast hi,lt_cast hk,le_cast,decide_true,cond_true,Int.toNat_natCast,zeO,Option.bind_some,w64_up (show k < 4294967296 by omega)]
   cases h:thingB (List.getD (pst P a i) k 0) with
   | true => rw [dcd_pos rfl]; rfl
   | false => rw [dcd_neg (by simp)]; rfl
  ·intro s g'
   show zc2 f _ g' _ = _
   unfold zc2
   simp only [zz_eq,hP,cst5 ha,lt_cast hi,zb,le_cast,decide_true,decide_false,cond_true,cond_false,Int.toNat_natCast,w64_up (show i < 4294967296 by omega)]
   by_cases c:(pst P a i).length ≤ 100
   ·have c':(List.getD (List.getD P a []) i []).length ≤ 100:=c
    have e1:¬ (((List.getD (List.getD P a []) i []).length:Nat):Int) > 100:=by omega
    simp only [e1,c',decide_false,decide_true,cond_false,cond_true]
   ·have c':¬ (List.getD (List.getD P a []) i []).length ≤ 100:=c
    have e1:(((List.getD (List.getD P a []) i []).length:Nat):Int) > 100:=by omega
    simp only [e1,c',decide_false,decide_true,cond_false,cond_true]
  ·rw [zqv]
   by_cases c:∀ t ∈ pst P a i,thingB t = true
   ·rw [dcd_pos c,cond_true]
    by_cases c':(pst P a i).length ≤ 100
    ·rw [decide_eq_true c',dcd_pos (show Rw i from ⟨c,c'⟩)]
    ·rw [decide_eq_false c',dcd_neg fun h:Rw i => c' h.2]
   ·rw [dcd_neg c,dcd_neg fun h:Rw i => c h.1]; rfl
 ·intro s g
  show zc3 f _ g _ = _
  unfold zc3
  simp only [zz_eq,hP,cst5 ha,zb,le_cast,decide_true,decide_false,cond_true,cond_false,Int.toNat_natCast]
 ·rw [up_all]
  refine zw (fun h => ?_) fun h => ?_
  ·rw [dcd_pos (show PastT N P a from ⟨c1,c2,fun r hr => by
    obtain ⟨i,hi,rfl⟩:=List.getElem_of_mem hr
    have:=h i (by omega) (by omega)
    have e:pst P a i = (List.getD P a [])[i]:=by rw [pst,List.getD_eq_getElem?_getD (l:=List.getD P a []),List.getElem?_eq_getElem hi]; rfl
    simp only [Rw,e] at this
    exact this⟩)]
  ·rw [dcd_neg fun hp:PastT N P a => h fun j h1 h2 => hp.rows _ (zD [] (by omega))]
end
end Go.Proofs.YtljojacnjjgceaaGreat.Den
namespace Go.Proofs.YtljojacnjjgceaaGreat.Den
open Go Go.RowKit
section
variable {f:Nat} {N:List NY} {L:List Bool} {W:List WY} {P:List (List (List Int))}
structure AreaT (N:List NY) (L:List Bool) (P:List (List (List Int))) (a:Nat):Prop where
 born:1 ≤ (nd N a).1 ∧ (nd N a).1 ≤ 20
 past:PastT N P a
 link:LinkT L a
theorem zJf {a b:Bool}:(a == b) = dcd (a = b):=by
 cases a <;> cases b <;> first | (rw [dcd_pos rfl]; rfl) | (rw [dcd_neg (by simp)]; rfl)
theorem idx_lt {a b:Nat} (ha:a < 5) (hb:b < 5):((a * 5 + b:Nat):Int) < ((25:Nat):Int):=by omega
theorem zJg {n:Nat} (hn:n < 1000000000) (hnf:n < f) (hf:1000 < f) (hs:SmallN n N L W P):zjz f ((N,L,W,P,()),()) = some ((dcd (NetT N L W P),()),()):=by
 show zjy f (iter (zfV f) f) N L W P = _
 unfold zjy
 simp only [zz_eq]
 by_cases c1:N.length = 5
 rotate_left
 ·rw [bneT (show ((N.length:Nat):Int) ≠ 5 by omega),cond_true,dcd_neg fun h:NetT N L W P => c1 h.nodes]
 rw [bneF (show ((N.length:Nat):Int) = 5 by omega),cond_false]
 by_cases c2:P.length = 5
 rotate_left
 ·rw [bneT (show ((P.length:Nat):Int) ≠ 5 by omega),cond_true,dcd_neg fun h:NetT N L W P => c2 h.pasts]
 rw [bneF (show ((P.length:Nat):Int) = 5 by omega),cond_false]
 by_cases c3:L.length = 25
 rotate_left
 ·rw [bneT (show ((L.length:Nat):Int) ≠ 25 by omega),cond_true,dcd_neg fun h:NetT N L W P => c3 h.links]
 rw [bneF (show ((L.length:Nat):Int) = 25 by omega),cond_false]
 by_cases c4:W.length ≤ 24
 rotate_left
 ·simp only [show ((W.length:Nat):Int) > 24 by omega,decide_true,cond_true]
  rw [dcd_neg fun h:NetT N L W P => c4 h.words]
 simp only [show ¬ ((W.length:Nat):Int) > 24 by omega,decide_false,cond_false]
 -- the first loop
 have l0:iter (zfV f) f ((0:Int),N,L,W,P) = cond (dcd (∀ a,0 ≤ a → a < 0 + 5 → AreaT N L P a)) (iter (zfU f) f ((0:Int),N,L,W,P)) (some ((false,()),())):=by
  refine (iter_up (st:=zfV f) (enc:=fun i (s:Unit) => ((i:Int),N,L,W,P)) (body:=fun i k s => cond (dcd (AreaT N L P i)) (k s) (some ((false,()),()))) (fin:=fun _ => iter (zfU f) f ((0:Int),N,L,W,P)) 5 ?_ ?_ 5 0 () f (by omega) (by omega)).trans (up_all _ _ 5 0)
  ·intro i s g hi
   show zdk f _ _ g _ = _
   unfold zdk
   simp only [zz_eq,zmK hi,le_cast,c1,cst5 hi,decide_true,cond_true,Int.toNat_natCast,in_dcd,Option.bind_some]
   by_cases cb:1 ≤ (nd N i).1 ∧ (nd N i).1 ≤ 20
   rotate_left
   ·rw [dcd_neg cb,dcd_neg fun h:AreaT N L P i => cb h.born]; rfl
   rw [dcd_pos cb]
   simp only [Bool.not_true,cond_false]
   rw [past_eq hn hnf c1 c2 hi cb hs.past,Option.bind_some]
   by_cases cp:PastT N P i
   rotate_left
   ·rw [dcd_neg cp,dcd_neg fun h:AreaT N L P i => cp h.past]; rfl
   rw [dcd_pos cp]
   simp only [Bool.not_true,cond_false]
   rw [link_eq f hi hi,Option.bind_some]
   simp only [c3,idx_lt hi hi,le_cast,decide_true,cond_true,Int.toNat_natCast]
   cases cs:List.getD L (i * 5 + i) false with
   | true =>
    rw [cond_true,dcd_neg fun h:AreaT N L P i => (by have:=h.link.self; rw [cs] at this; cases this),cond_false]
   | false =>
    rw [cond_false]
    refine (iter_up (st:=znm f g) (enc:=fun j (s:Unit) => ((j:Int),(i:Int),N,L,W,P)) (body:=fun j k s => cond (dcd (List.getD L (i * 5 + j) false = List.getD L (j * 5 + i) false)) (k s) (some ((false,()),()))) (fin:=fun _ => g (((i + 1:Nat):Int),N,L,W,P)) i ?_ ?_ i 0 () f (by omega) (by omega)).trans ?_
    ·intro j s g' hj
     show zdi f _ g' _ = _
     unfold zdi
     have hj5:j < 5:=by omega
     simp only [lt_cast hj,decide_true,cond_true,link_eq f hi hj5,link_eq f hj5 hi,Option.bind_some,zz_eq,c3,idx_lt hi hj5,idx_lt hj5 hi,le_cast,Int.toNat_natCast,w64_up (show j < 4294967296 by omega),zJf]
     cases dcd (List.getD L (i * 5 + j) false = List.getD L (j * 5 + i) false) <;> rfl
    ·intro s g'
     show zdi f _ g' _ = _
     unfold zdi
     simp only [zb,decide_false,cond_false,w64_up (show i < 4294967296 by omega)]
    ·rw [up_all]
     by_cases cl:∀ j,0 ≤ j → j < 0 + i → List.getD L (i * 5 + j) false = List.getD L (j * 5 + i) false
     ·rw [dcd_pos cl,dcd_pos (show AreaT N L P i from ⟨cb,cp,cs,fun b hb => cl b (by omega) (by omega)⟩)]
     ·rw [dcd_neg cl,dcd_neg fun h:AreaT N L P i => cl fun j _ hj => h.link.sym j (by omega)]
  ·intro s g
   show zdk f _ _ g _ = _
   unfold zdk
   have:¬ (((5:Nat):Int) < 5):=by omega
   simp only [this,decide_false,cond_false]
 rw [l0]
 refine zw (fun hA => ?_) fun hA => ?_
 rotate_left
 ·rw [dcd_neg fun h:NetT N L W P => hA fun a _ ha => ⟨h.born a (by omega),h.past a (by omega),h.link a (by omega)⟩]
 have fr:Fr N P:=⟨c1,c2,fun a ha => (hA a (by omega) (by omega)).born,fun a ha => (hA a (by omega) (by omega)).past⟩
 have hnk:∀ a,a < 5 → (nd N a).2.1.length < f ∧ (nd N a).2.1.length < 4294967296:=fun a ha => by
  have:=(hs.known _ (zD N0d (show a < N.length by omega))).1
  exact ⟨Nat.lt_of_le_of_lt this hnf,Nat.lt_of_le_of_lt this (by omega)⟩
 -- words
 have l3:iter (zfT f) f ((0:Int),N,L,W,P) = cond (dcd (∀ w ∈ W,WordT N P w)) (some ((dcd (0 ≤ (nd N 0).2.2.1 ∧ (nd N 0).2.2.1 ≤ 1000),()),())) (some ((false,()),())):=by
  refine (zt (st:=zfT f) (enc:=fun i (s:Unit) => ((i:Int),N,L,W,P)) (fun w k s => cond (dcd (WordT N P w)) (k s) (some ((false,()),()))) (fun _ => some ((dcd (0 ≤ (nd N 0).2.2.1 ∧ (nd N 0).2.2.1 ≤ 1000),()),())) W W0d ?_ ?_ f () (by omega)).trans (zqv _ _ W)
  ·intro i s g hi
   show zfS f g _ = _
   unfold zfS
   have hw:=(hs.said _ (zD W0d hi)).1
   simp only [zz_eq,lt_cast hi,le_cast,decide_true,cond_true,Int.toNat_natCast,w64_up (show i < 4294967296 by omega)]
   rw [word_eq hf fr (List.getD W i W0d) (by omega) (by omega),Option.bind_some]
   cases dcd (WordT N P (List.getD W i W0d)) <;> rfl
  ·intro s g
   show zfS f g _ = _
   unfold zfS
   simp only [zz_eq,zb,decide_false,cond_false,c1,show (0:Int) < ((5:Nat):Int) by omega,decide_true,cond_true,in_dcd,Option.bind_some,Int.toNat_zero]
 refine (iter_up (st:=zfU f) (enc:=fun i (s:Unit) => ((i:Int),N,L,W,P)) (body:=fun i k s => cond (dcd (NodeT N P i)) (k s) (some ((false,()),()))) (fin:=fun _ => iter (zfT f) f ((0:Int),N,L,W,P)) 5 ?_ ?_ 5 0 () f (by omega) (by omega)).trans ?_
 ·intro i s g hi
  show zdj f _ g _ = _
  unfold zdj
  simp only [zmK hi,decide_true,cond_true,node_eq hf fr hi (hnk i hi).1 (hnk i hi).2,Option.bind_some,w64_up (show i < 4294967296 by omega)]
  cases dcd (NodeT N P i) <;> rfl
 ·intro s g
  show zdj f _ g _ = _
  unfold zdj
  have:¬ (((5:Nat):Int) < 5):=by omega
  simp only [this,decide_false,cond_false]
 ·rw [up_all]
  refine zw (fun hN => ?_) fun hN => ?_
  rotate_left
  ·rw [dcd_neg fun h:NetT N L W P => hN fun a _ ha => h.node a (by omega)]
  rw [l3]
  refine zw (fun hW => ?_) fun hW => ?_
  rotate_left
  ·rw [dcd_neg fun h:NetT N L W P => hW h.word]
  refine congrArg (fun b => some ((b,()),())) (zu ⟨fun h => ?_,fun h => ⟨((h.node 0 (by omega)).root rfl).beacon,h.beacon⟩⟩)
  exact {
   nodes:=c1
   pasts:=c2
   links:=c3
   words:=c4
   born:=fun a ha => (hA a (by omega) (by omega)).born
   past:=fun a ha => (hA a (by omega) (by omega)).past
   link:=fun a ha => (hA a (by omega) (by omega)).link
   node:=fun a ha => hN a (by omega) (by omega)
   word:=hW
   beacon:=h.2 }
end
end Go.Proofs.YtljojacnjjgceaaGreat.Den
namespace Go.Proofs.YtljojacnjjgceaaGreat.Den
open Go Go.RowKit
theorem zqx (f:Nat) (n:Int):zdU f ((n,()),()) = some ((dcd (0 ≤ n ∧ n ≤ 4),()),()):=by
 show zox f n = _
 unfold zox
 by_cases c:0 ≤ n ∧ n ≤ 4
 ·rw [dcd_pos c]
  simp only [show n ≥ 0 from c.1,show n < 5 by omega,decide_true,cond_true]
 ·rw [dcd_neg c]
  by_cases c1:n ≥ 0
  ·simp only [c1,show ¬ n < 5 by omega,decide_true,decide_false,cond_true]
  ·simp only [c1,decide_false,cond_false]
theorem zxR (f:Nat) (a b:List Int) (hl:b.length < 4294967296) (hf:b.length < f):zgK f ((a,()),(b,()),()) = some ((dcd (a = b),()),()):=by
 show zkt f (iter (zks f) f) a b = _
 unfold zkt
 simp only [zz_eq]
 by_cases h:a.length = b.length
 ·rw [bneF (show ((a.length:Nat):Int) = ((b.length:Nat):Int) by omega),cond_false]
  refine (iter_up (st:=zks f) (enc:=fun i (s:Unit) => ((i:Int),((a.length:Nat):Int),a,b)) (body:=fun i k s => cond ((List.getD a i 0) != (List.getD b i 0)) (some ((false,()),())) (k s)) (fin:=fun _ => some ((true,()),())) a.length ?_ ?_ a.length 0 () f (by omega) (by omega)).trans ?_
  ·intro i s g hi
   show zgJ f g _ = _
   unfold zgJ
   simp only [zz_eq,lt_cast hi,lt_cast (h ▸ hi:i < b.length),le_cast,decide_true,cond_true,Int.toNat_natCast,w64_up (show i < 4294967296 by omega)]
  ·intro s g
   show zgJ f g _ = _
   unfold zgJ
   simp only [zz_eq,zb,decide_false,cond_false]
  ·rw [zip0 a b 0 h (fun x y => x != y) (fun x y => by simp)]
   exact zw (fun h => by rw [dcd_pos h]) fun h => by rw [dcd_neg h]
 ·rw [bneT (show ((a.length:Nat):Int) ≠ ((b.length:Nat):Int) by omega),cond_true,dcd_neg fun e => h (by rw [e])]
theorem zJh (f:Nat) (a b:LP) (hl:b.length < 4294967296) (hf:b.length < f):zkB f ((a,()),(b,()),()) = some ((dcd (a = b),()),()):=by
 show zkA f (iter (zkz f) f) a b = _
 unfold zkA
 simp only [zz_eq]
 by_cases h:a.length = b.length
 ·rw [bneF (show ((a.length:Nat):Int) = ((b.length:Nat):Int) by omega),cond_false]
  refine (iter_up (st:=zkz f) (enc:=fun i (s:Unit) => ((i:Int),((a.length:Nat):Int),a,b)) (body:=fun i k s => cond (!((List.getD a i (0,(0,()))).1 == (List.getD b i (0,(0,()))).1 && ((List.getD a i (0,(0,()))).2.1 == (List.getD b i (0,(0,()))).2.1 && true))) (some ((false,()),())) (k s)) (fin:=fun _ => some ((true,()),())) a.length ?_ ?_ a.length 0 () f (by omega) (by omega)).trans ?_
  ·intro i s g hi
   show zgQ f g _ = _
   unfold zgQ
   simp only [zz_eq,lt_cast hi,lt_cast (h ▸ hi:i < b.length),le_cast,decide_true,cond_true,Int.toNat_natCast,w64_up (show i < 4294967296 by omega)]
  ·intro s g
   show zgQ f g _ = _
   unfold zgQ
   simp only [zz_eq,zb,decide_false,cond_false]
  ·rw [zip0 a b (0,(0,())) h (fun x y => !(x.1 == y.1 && (x.2.1 == y.2.1 && true))) knot_ne]
   exact zw (fun h => by rw [dcd_pos h]) fun h => by rw [dcd_neg h]
 ·rw [bneT (show ((a.length:Nat):Int) ≠ ((b.length:Nat):Int) by omega),cond_true,dcd_neg fun e => h (by rw [e])]
theorem zJi (f:Nat) (a b:LP) (hl:b.length < 4294967296) (hf:b.length < f):zkF f ((a,()),(b,()),()) = some ((dcd (a = b),()),()):=by
 show zkE f (iter (zkD f) f) a b = _
 unfold zkE
 simp only [zz_eq]
 by_cases h:a.length = b.length
 ·rw [bneF (show ((a.length:Nat):Int) = ((b.length:Nat):Int) by omega),cond_false]
  refine (iter_up (st:=zkD f) (enc:=fun i (s:Unit) => ((i:Int),((a.length:Nat):Int),a,b)) (body:=fun i k s => cond (!((List.getD a i (0,(0,()))).1 == (List.getD b i (0,(0,()))).1 && ((List.getD a i (0,(0,()))).2.1 == (List.getD b i (0,(0,()))).2.1 && true))) (some ((false,()),())) (k s)) (fin:=fun _ => some ((true,()),())) a.length ?_ ?_ a.length 0 () f (by omega) (by omega)).trans ?_
  ·intro i s g hi
   show zgT f g _ = _
   unfold zgT
   simp only [zz_eq,lt_cast hi,lt_cast (h ▸ hi:i < b.length),le_cast,decide_true,cond_true,Int.toNat_natCast,w64_up (show i < 4294967296 by omega)]
  ·intro s g
   show zgT f g _ = _
   unfold zgT
   simp only [zz_eq,zb,decide_false,cond_false]
  ·rw [zip0 a b (0,(0,())) h (fun x y => !(x.1 == y.1 && (x.2.1 == y.2.1 && true))) knot_ne]
   exact zw (fun h => by rw [dcd_pos h]) fun h => by rw [dcd_neg h]
 ·rw [bneT (show ((a.length:Nat):Int) ≠ ((b.length:Nat):Int) by omega),cond_true,dcd_neg fun e => h (by rw [e])]
theorem zJj (f:Nat) (a b:List (List Int)) (hl:b.length < 4294967296) (hf:b.length < f) (hb:∀ r ∈ b,r.length < 4294967296 ∧ r.length < f):zkx f ((a,()),(b,()),()) = some ((dcd (a = b),()),()):=by
 show zkw f (iter (zkv f) f) a b = _
 unfold zkw
 simp only [zz_eq]
 by_cases h:a.length = b.length
 ·rw [bneF (show ((a.length:Nat):Int) = ((b.length:Nat):Int) by omega),cond_false]
  refine (iter_up (st:=zkv f) (enc:=fun i (s:Unit) => ((i:Int),((a.length:Nat):Int),a,b)) (body:=fun i k s => cond (!dcd (List.getD a i [] = List.getD b i [])) (some ((false,()),())) (k s)) (fin:=fun _ => some ((true,()),())) a.length ?_ ?_ a.length 0 () f (by omega) (by omega)).trans ?_
  ·intro i s g hi
   show zgN f g _ = _
   unfold zgN
   have hib:i < b.length:=h ▸ hi
   have hr:=hb _ (zD [] hib)
   simp only [zz_eq,lt_cast hi,lt_cast hib,le_cast,decide_true,cond_true,Int.toNat_natCast,w64_up (show i < 4294967296 by omega),zxR f (List.getD a i []) (List.getD b i []) hr.1 hr.2,Option.bind_some]
  ·intro s g
   show zgN f g _ = _
   unfold zgN
   simp only [zz_eq,zb,decide_false,cond_false]
  ·rw [zip0 a b [] h (fun x y => !dcd (x = y)) (fun x y => by
    by_cases h:x = y
    ·rw [dcd_pos h]; simp [h]
    ·rw [dcd_neg h]; simp [h])]
   exact zw (fun h => by rw [dcd_pos h]) fun h => by rw [dcd_neg h]
 ·rw [bneT (show ((a.length:Nat):Int) ≠ ((b.length:Nat):Int) by omega),cond_true,dcd_neg fun e => h (by rw [e])]
theorem zJk (f:Nat) (a b:SumD) {n:Nat} (hb:SmallS b n) (hn:n < 1000000000) (hf:n < f):zoF f (a,b,()) = some ((dcd (a = b),()),()):=by
 obtain ⟨x0,x1,x2,x3,x4,x5,x6,⟨⟩⟩:=a
 obtain ⟨x7,x8,x9,x10,x11,x12,x13,⟨⟩⟩:=b
 have h1:=hb.rows; have h2:=hb.row; have h3:=hb.marks; have h4:=hb.pairs; have h5:=hb.knots
 simp only at h1 h2 h3 h4 h5
 show zoE f x0 x1 x2 x3 x4 x5 x6 x7 x8 x9 x10 x11 x12 x13 = _
 unfold zoE
 have no:∀ {p:Prop},¬ p → ((x0,x1,x2,x3,x4,x5,x6,()) = (x7,x8,x9,x10,x11,x12,x13,()) → p) → dcd ((x0,x1,x2,x3,x4,x5,x6,()) = (x7,x8,x9,x10,x11,x12,x13,())) = false:=fun h1 h2 => dcd_neg fun e => h1 (h2 e)
 rw [zJj f x0 x7 (by omega) (by omega) (fun r hr => by have:=h2 r hr; omega),Option.bind_some]
 by_cases c0:x0 = x7
 rotate_left
 ·simp only [dcd_neg c0,cond_false]
  rw [no c0 fun e => (Prod.mk.inj e).1]
 simp only [dcd_pos c0,cond_true]
 rw [zxR f x1 x8 (by omega) (by omega),Option.bind_some]
 by_cases c1:x1 = x8
 rotate_left
 ·simp only [dcd_neg c1,cond_false]
  rw [no c1 fun e => by simp only [Prod.mk.injEq] at e; exact e.2.1]
 simp only [dcd_pos c1,cond_true]
 rw [zJh f x2 x9 (by omega) (by omega),Option.bind_some]
 by_cases c2:x2 = x9
 rotate_left
 ·simp only [dcd_neg c2,cond_false]
  rw [no c2 fun e => by simp only [Prod.mk.injEq] at e; exact e.2.2.1]
 simp only [dcd_pos c2,cond_true]
 by_cases c3:x3 = x10
 rotate_left
 ·rw [beqF c3,cond_false,no c3 fun e => by simp only [Prod.mk.injEq] at e; exact e.2.2.2.1]
 rw [beqT c3,cond_true]
 by_cases c4:x4 = x11
 rotate_left
 ·rw [beqF c4,cond_false,no c4 fun e => by simp only [Prod.mk.injEq] at e; exact e.2.2.2.2.1]
 rw [beqT c4,cond_true,zJi f x5 x12 (by omega) (by omega),Option.bind_some]
 by_cases c5:x5 = x12
 rotate_left
 ·simp only [dcd_neg c5,cond_false]
  rw [no c5 fun e => by simp only [Prod.mk.injEq] at e; exact e.2.2.2.2.2.1]
 simp only [dcd_pos c5,cond_true]
 by_cases c6:x6 = x13
 rotate_left
 ·rw [beqF c6,no c6 fun e => by simp only [Prod.mk.injEq] at e; exact e.2.2.2.2.2.2.1]
 rw [beqT c6,dcd_pos (by rw [c0,c1,c2,c3,c4,c5,c6])]
theorem ix_eq {a b:Nat} (ha:a < 5) (hb:b < 5):w64 (w64 ((a:Int) * 5) + (b:Int)) = ((a * 5 + b:Nat):Int):=by
 rw [w64_id (x:=(a:Int) * 5) (by omega) (by omega),w64_id (by omega) (by omega)]; omega
def PairT (L:List Bool) (a b:Nat):Prop:=List.getD L (a * 5 + b) false = List.getD L (b * 5 + a) false ∧ (a = b → List.getD L (a * 5 + b) false = false)
theorem links_t {L:List Bool}:(∀ a,a < 5 → LinkT L a) ↔ ∀ a,0 ≤ a → a < 0 + 5 → ∀ b,0 ≤ b → b < 0 + 5 → PairT L a b:=by
 constructor
 ·intro h a _ ha b _ hb
  refine ⟨?_,fun e => by subst e; exact (h a (by omega)).self⟩
  rcases Nat.lt_trichotomy a b with c | c | c
  ·exact ((h b (by omega)).sym a c).symm
  ·subst c; rfl
  ·exact (h a (by omega)).sym b c
 ·intro h a ha
  exact ⟨(h a (by omega) (by omega) a (by omega) (by omega)).2 rfl,fun b hb => (h a (by omega) (by omega) b (by omega) (by omega)).1⟩
theorem zJl (f:Nat) (hf:1000 < f) (L:List Bool):zkn f ((L,()),()) = some ((dcd (L.length = 25 ∧ ∀ a,a < 5 → LinkT L a),()),()):=by
 show zkm f (iter (zkl f) f) L = _
 unfold zkm
 simp only [zz_eq]
 by_cases c:L.length = 25
 rotate_left
 ·rw [bneT (show ((L.length:Nat):Int) ≠ 25 by omega),cond_true,dcd_neg fun h => c h.1]
 rw [bneF (show ((L.length:Nat):Int) = 25 by omega),cond_false]
 refine (iter_up (st:=zkl f) (enc:=fun i (s:Unit) => ((i:Int),L)) (body:=fun i k s => cond (dcd (∀ b,0 ≤ b → b < 0 + 5 → PairT L i b)) (k s) (some ((false,()),()))) (fin:=fun _ => some ((true,()),())) 5 ?_ ?_ 5 0 () f (by omega) (by omega)).trans ?_
 ·intro i s g hi
  show zdP f _ g _ = _
  unfold zdP
  simp only [zmK hi,decide_true,cond_true]
  refine (iter_up (st:=zot f g) (enc:=fun j (s:Unit) => ((j:Int),L,(i:Int),(i:Int))) (body:=fun j k s => cond (dcd (PairT L i j)) (k s) (some ((false,()),()))) (fin:=fun _ => g (((i + 1:Nat):Int),L)) 5 ?_ ?_ 5 0 () f (by omega) (by omega)).trans ?_
  ·intro j s g' hj
   show zdO f _ g' _ = _
   unfold zdO
   simp only [zmK hj,ix_eq hi hj,ix_eq hj hi,zz_eq,c,idx_lt hi hj,idx_lt hj hi,le_cast,decide_true,cond_true,Int.toNat_natCast,w64_up (show j < 4294967296 by omega)]
   by_cases hp:PairT L i j
   ·rw [dcd_pos hp]
    cases hA:List.getD L (i * 5 + j) false with
    | false => rw [show List.getD L (j * 5 + i) false = false by rw [← hp.1]; exact hA]; rfl
    | true =>
     have hne:(i:Int) ≠ (j:Int):=fun e => by have:=hp.2 (by omega); rw [hA] at this; cases this
     rw [show List.getD L (j * 5 + i) false = true by rw [← hp.1]; exact hA,beqF hne]; rfl
   ·rw [dcd_neg hp]
    cases hA:List.getD L (i * 5 + j) false with
    | false =>
     cases hB:List.getD L (j * 5 + i) false with
     | false => exact absurd ⟨hA.trans hB.symm,fun _ => hA⟩ hp
     | true => rfl
    | true =>
     cases hB:List.getD L (j * 5 + i) false with
     | false => rfl
     | true =>
      have he:(i:Int) = (j:Int):=by
       by_cases e:i = j
       ·omega
       ·exact absurd ⟨hA.trans hB.symm,fun h => absurd h e⟩ hp
      rw [beqT he]; rfl
  ·intro s g'
   show zdO f _ g' _ = _
   unfold zdO
   have:¬ (((5:Nat):Int) < 5):=by omega
   simp only [this,decide_false,cond_false,w64_up (show i < 4294967296 by omega)]
  ·rw [up_all]
 ·intro s g
  show zdP f _ g _ = _
  unfold zdP
  have:¬ (((5:Nat):Int) < 5):=by omega
  simp only [this,decide_false,cond_false]
 ·rw [up_all]
  refine zw (fun h => ?_) fun h => ?_
  ·rw [dcd_pos ⟨c,links_t.2 h⟩]
  ·rw [dcd_neg fun h2 => h (links_t.1 h2.2)]
section
variable {f:Nat} {N:List NY} {L:List Bool} {W:List WY} {P:List (List (List Int))}
theorem zJm (f:Nat) (t:Int):zS f ((t,()),()) = some ((thingB t,()),()):=zeT f t
theorem zJn {n:Nat} (hn:n < 1000000000) (hnf:n < f) (hP:P.length = 5) {a:Nat} (ha:a < 5) (hs:∀ p ∈ P,p.length ≤ n ∧ ∀ r ∈ p,r.length ≤ n) :
  zkq f ((List.getD P a [],()),((nd N a).1,()),()) = some ((dcd ((1 ≤ (nd N a).1 ∧ (nd N a).1 ≤ 20) ∧ PastT N P a),()),()):=by
 show zkp f (iter (zko f) f) (List.getD P a []) (nd N a).1 = _
 unfold zkp
 obtain ⟨s1,s2⟩:=hs (List.getD P a []) (zD [] (by omega))
 simp only [zz_eq,Int.toNat_zero]
 by_cases b1:1 ≤ (nd N a).1
 rotate_left
 ·simp only [show (nd N a).1 < 1 by omega,decide_true,cond_true]
  rw [dcd_neg fun h => b1 h.1.1]
 simp only [show ¬ (nd N a).1 < 1 by omega,decide_false,cond_false]
 by_cases b2:(nd N a).1 ≤ 20
 rotate_left
 ·simp only [show (nd N a).1 > 20 by omega,decide_true,cond_true]
  rw [dcd_neg fun h => b2 h.1.2]
 simp only [show ¬ (nd N a).1 > 20 by omega,decide_false,cond_false]
 rw [w64_id (x:=(nd N a).1 + 1) (by omega) (by omega)]
 by_cases c1:((List.getD P a []).length:Int) = (nd N a).1 + 1
 rotate_left
 ·rw [bneT c1,cond_true,dcd_neg fun h => c1 h.2.len]
 rw [bneF c1,cond_false]
 simp only [show (0:Int) < ((List.getD P a []).length:Int) by omega,decide_true,cond_true]
 by_cases c2:pst P a 0 = []
 rotate_left
 ·rw [show (((pst P a 0).length:Int) != (0:Int)) = true by
   cases h:pst P a 0 with
   | nil => exact absurd h c2
   | cons x l => simp; omega,cond_true,dcd_neg fun h => c2 h.2.zero]
 rw [show (((pst P a 0).length:Int) != (0:Int)) = false by rw [c2]; rfl,cond_false]
 let Rw:Nat → Prop:=fun i => (∀ t ∈ pst P a i,thingB t = true) ∧ (pst P a i).length ≤ 100
 refine (iter_up (st:=zko f) (enc:=fun i (s:Unit) => ((i:Int),((List.getD P a []).length:Int),List.getD P a [])) (body:=fun i k s => cond (dcd (Rw i)) (k s) (some ((false,()),()))) (fin:=fun _ => some ((true,()),())) (List.getD P a []).length ?_ ?_ (List.getD P a []).length 0 () f (by omega) (by omega)).trans ?_
 ·intro i s g hi
  show zdT f _ g _ = _
  unfold zdT
  have hr:=s2 (pst P a i) (zD [] hi)
  simp only [zz_eq,lt_cast hi,le_cast,decide_true,cond_true,Int.toNat_natCast]
  by_cases c:(pst P a i).length ≤ 100
  rotate_left
  ·have e1:(((List.getD (List.getD P a []) i []).length:Nat):Int) > 100:=by
    have:¬ (List.getD (List.getD P a []) i []).length ≤ 100:=c
    omega
   simp only [e1,decide_true,cond_true]
   rw [dcd_neg fun h:Rw i => c h.2]; rfl
  have e1:¬ (((List.getD (List.getD P a []) i []).length:Nat):Int) > 100:=by
   have:(List.getD (List.getD P a []) i []).length ≤ 100:=c
   omega
  simp only [e1,decide_false,cond_false]
  refine (zt (st:=zov f g) (enc:=fun k (s:Unit) => ((k:Int),((pst P a i).length:Int),pst P a i,(i:Int),((List.getD P a []).length:Int),List.getD P a [])) (fun x k s => cond (dcd (thingB x = true)) (k s) (some ((false,()),()))) (fun s => g (((i + 1:Nat):Int),((List.getD P a []).length:Int),List.getD P a [])) (pst P a i) 0 ?_ ?_ f () (by omega)).trans ?_
  ·intro k s g' hk
   show zdS f _ g' _ = _
   unfold zdS
   simp only [zz_eq,lt_cast hk,le_cast,decide_true,cond_true,Int.toNat_natCast,zJm,Option.bind_some,w64_up (show k < 4294967296 by omega)]
   cases h:thingB (List.getD (pst P a i) k 0) with
   | true => rw [dcd_pos rfl]; rfl
   | false => rw [dcd_neg (by simp)]; rfl
  ·intro s g'
   show zdS f _ g' _ = _
   unfold zdS
   simp only [zz_eq,zb,le_cast,decide_true,decide_false,cond_true,cond_false,Int.toNat_natCast,w64_up (show i < 4294967296 by omega)]
  ·rw [zqv]
   by_cases c':∀ t ∈ pst P a i,thingB t = true
   ·rw [dcd_pos c',dcd_pos (show Rw i from ⟨c',c⟩)]
   ·rw [dcd_neg c',dcd_neg fun h:Rw i => c' h.1]
 ·intro s g
  show zdT f _ g _ = _
  unfold zdT
  simp only [zz_eq,zb,le_cast,decide_true,decide_false,cond_true,cond_false,Int.toNat_natCast]
 ·rw [up_all]
  refine zw (fun h => ?_) fun h => ?_
  ·rw [dcd_pos ⟨⟨b1,b2⟩,show PastT N P a from ⟨c1,c2,fun r hr => by
    obtain ⟨i,hi,rfl⟩:=List.getElem_of_mem hr
    have:=h i (by omega) (by omega)
    have e:pst P a i = (List.getD P a [])[i]:=by rw [pst,List.getD_eq_getElem?_getD (l:=List.getD P a []),List.getElem?_eq_getElem hi]; rfl
    simp only [Rw,e] at this
    exact this⟩⟩]
  ·rw [dcd_neg fun hp => h fun j h1 h2 => hp.2.rows _ (zD [] (by omega))]
structure CntT (N:List NY) (P:List (List (List Int))) (e:EY):Prop where
 node:0 ≤ e.1 ∧ e.1 ≤ 4
 born:1 ≤ e.2.1 ∧ e.2.1 ≤ (nd N e.1.toNat).1
 num:0 ≤ e.2.2.1 ∧ e.2.2.1 ≤ ((pst P e.1.toNat e.2.1.toNat).length:Int)
theorem icnt_eq (f:Nat) (fr:Fr N P) (e:EY) :
  zoC f ((N,L,W,P,()),(e.1,e.2.1,e.2.2.1,e.2.2.2.1.1.1,e.2.2.2.1.2.1.1,e.2.2.2.1.2.2.1.1,e.2.2.2.1.2.2.1.2.1,e.2.2.2.1.2.2.1.2.2.1,e.2.2.2.1.2.2.2.1.1,e.2.2.2.1.2.2.2.1.2.1,()),()) = some ((dcd (CntT N P e),()),()):=by
 obtain ⟨x4,x5,x6,y,⟨⟩⟩:=e
 show zoB f N L W P x4 x5 x6 y.1.1 y.2.1.1 y.2.2.1.1 y.2.2.1.2.1 y.2.2.1.2.2.1 y.2.2.2.1.1 y.2.2.2.1.2.1 = _
 unfold zoB
 simp only [zqx,Option.bind_some,zz_eq,fr.nodes,fr.pasts]
 by_cases c1:0 ≤ x4 ∧ x4 ≤ 4
 rotate_left
 ·rw [dcd_neg (fun h:CntT N P (x4,x5,x6,y,()) => c1 h.node),dcd_neg c1]; rfl
 have hi:x4.toNat < 5:=by omega
 have hp:=fr.past _ hi
 have hb:=fr.born _ hi
 rw [dcd_pos c1]
 simp only [cond_true,c1.1,show x4 < ((5:Nat):Int) by omega,decide_true]
 by_cases c2:1 ≤ x5
 rotate_left
 ·simp only [show ¬ x5 ≥ 1 by omega,decide_false,cond_false]
  rw [dcd_neg (fun h:CntT N P (x4,x5,x6,y,()) => c2 h.born.1)]
 simp only [show x5 ≥ 1 by omega,decide_true,cond_true]
 by_cases c3:x5 ≤ (nd N x4.toNat).1
 rotate_left
 ·simp only [c3,decide_false,cond_false]
  rw [dcd_neg (fun h:CntT N P (x4,x5,x6,y,()) => c3 h.born.2)]
 simp only [c3,decide_true,cond_true]
 by_cases c4:0 ≤ x6
 rotate_left
 ·simp only [show ¬ x6 ≥ 0 by omega,decide_false,cond_false]
  rw [dcd_neg (fun h:CntT N P (x4,x5,x6,y,()) => c4 h.num.1)]
 have hlt:x5 < ((List.getD P x4.toNat []).length:Int):=by have:=hp.len; omega
 simp only [show x6 ≥ 0 by omega,show (0:Int) ≤ x5 by omega,hlt,decide_true,cond_true]
 by_cases c5:x6 ≤ ((pst P x4.toNat x5.toNat).length:Int)
 ·have c6:x6 ≤ (((List.getD (List.getD P x4.toNat []) x5.toNat []).length:Nat):Int):=c5
  simp only [c6,decide_true]
  rw [dcd_pos (show CntT N P (x4,x5,x6,y,()) from ⟨c1,⟨c2,c3⟩,⟨c4,c5⟩⟩)]
 ·have c6:¬ x6 ≤ (((List.getD (List.getD P x4.toNat []) x5.toNat []).length:Nat):Int):=c5
  simp only [c6,decide_false]
  rw [dcd_neg (fun h:CntT N P (x4,x5,x6,y,()) => c5 h.num.2)]
end
end Go.Proofs.YtljojacnjjgceaaGreat.Den
namespace Go.Proofs.YtljojacnjjgceaaGreat.Den
open Go Go.RowKit
def smq (q:List Int) (i:Nat):SY:=deep (sumOf (q.take i)).1
def Cache (P:List (List (List Int))) (g:Int → Int → List SY):Prop:=∀ a b:Int,∃ k,k ≤ 101 ∧ g a b = (List.range k).map (smq (pst P a.toNat b.toNat))
theorem zJo {P:List (List (List Int))}:Cache P fun _ _ => []:=fun a b => ⟨0,by omega,rfl⟩
theorem Cache.upd {P:List (List (List Int))} {g:Int → Int → List SY} (h:Cache P g) (a b:Int) {k:Nat} (hk:k ≤ 101):Cache P (updF g a b ((List.range k).map (smq (pst P a.toNat b.toNat)))):=fun x y => by
 by_cases e:(x,y) = (a,b)
 ·simp only [Prod.mk.injEq] at e
  obtain ⟨rfl,rfl⟩:=e
  exact ⟨k,hk,updF_eq⟩
 ·obtain ⟨k',h1,h2⟩:=h x y
  exact ⟨k',h1,(updF_ne e).trans h2⟩
theorem getD_sm {q:List Int} {k i:Nat} (h:i < k) {d:SY}:List.getD ((List.range k).map (smq q)) i d = smq q i:=by
 rw [List.getD_eq_getElem?_getD,List.getElem?_map,List.getElem?_range h]; rfl
theorem zxS {q:List Int} {k:Nat}:(List.range (k + 1)).map (smq q) = (List.range k).map (smq q) ++ [smq q k]:=by
 rw [List.range_succ,List.map_append]; rfl
theorem zxT {q:List Int} {i:Nat} (h:i < q.length):q.take i ++ [q.getD i 0] = q.take (i + 1):=by
 rw [List.take_add_one,List.getD_eq_getElem?_getD,List.getElem?_eq_getElem h]; rfl
section
variable {f:Nat} {N:List NY} {L:List Bool} {W:List WY} {P:List (List (List Int))}
theorem grow_c2 (hf:1000 < f) {q:List Int} (hq:∀ t ∈ q,thingB t = true) (hl:q.length ≤ 100) {num:Nat} (hn:num ≤ q.length) (x0 x1:Int) (x3:List (List Int)) (x4:List Int) (x5:LP) (x6 x7:Int) (x8:LP) (x9 a b z1 z2 z3:Int) (g:Int → Int → List SY) :
  ∀ (d k Z:Nat),1 ≤ k → k ≤ 101 → k + d = max k (num + 1) → d < Z → iter (zaP f) Z (.c2 (q,N,L,W,P,(List.range k).map (smq q),x0,x1,(num:Int),x3,x4,x5,x6,x7,x8,x9,a,b,z1,z2,z3,g,a,b)) = some ((N,L,W,P,updF g a b ((List.range (k + d)).map (smq q)),()),((sumOf (q.take num)).1,()))
 | _,_,0,_,_,_,h => by omega
 | 0,k,Z + 1,hk,hk2,he,h => by
  show zaO f (iter (zaP f) Z) (.c2 (q,N,L,W,P,(List.range k).map (smq q),x0,x1,(num:Int),x3,x4,x5,x6,x7,x8,x9,a,b,z1,z2,z3,g,a,b)) = _
  unfold zaO
  have hkn:num < k:=by omega
  simp only [zz_eq,List.length_map,List.length_range,show ¬ ((k:Int) ≤ (num:Int)) by omega,decide_false,cond_false,beq_self_eq_true,Bool.and_self,le_cast,lt_cast hkn,hkn,Int.toNat_natCast,decide_true,cond_true,getD_sm hkn,Nat.add_zero]
  rfl
 | d + 1,k,Z + 1,hk,hk2,he,h => by
  show zaO f (iter (zaP f) Z) (.c2 (q,N,L,W,P,(List.range k).map (smq q),x0,x1,(num:Int),x3,x4,x5,x6,x7,x8,x9,a,b,z1,z2,z3,g,a,b)) = _
  unfold zaO
  have hkn:k ≤ num:=by omega
  have h1:k - 1 < k:=by omega
  have h2:k - 1 < q.length:=by omega
  have hq':∀ t ∈ q.take (k - 1),thingB t = true:=fun t ht => hq t (List.mem_of_mem_take ht)
  have hl':(q.take (k - 1)).length ≤ 100:=by rw [List.length_take]; omega
  have hs:(sumOf (q.take (k - 1))).2 = true:=ziL hq' (by omega)
  have hc:=zxP f hf (sumOf (q.take (k - 1))).1 (q.getD (k - 1) 0) (zxp hs).form (zmE _).knots
  rw [zxC hq' (hq _ (zD 0 h2)) (by omega),show q.take (k - 1) ++ [q.getD (k - 1) 0] = q.take k by rw [zxT h2]; congr 1; omega] at hc
  simp only [zz_eq,List.length_map,List.length_range,show ((k:Int) ≤ (num:Int)) by omega,w64_dn (show k ≠ 0 by omega) (show k < 4294967296 by omega),le_cast,lt_cast h1,lt_cast h2,h1,Int.toNat_natCast,decide_true,cond_true,getD_sm h1]
  refine (congrArg (fun o => Option.bind o _) hc).trans ?_
  rw [Option.bind_some]
  simp only [show k + 1 < LIM by unfold LIM; omega,decide_true,cond_true]
  have ih:=grow_c2 hf hq hl hn x0 x1 x3 x4 x5 x6 x7 x8 x9 a b z1 z2 z3 g d (k + 1) Z (by omega) (by omega) (by omega) (by omega)
  rw [show k + 1 + d = k + (d + 1) by omega,zxS] at ih
  exact ih
theorem grow_c0 (hf:1000 < f) {q:List Int} (hq:∀ t ∈ q,thingB t = true) (hl:q.length ≤ 100) {num:Nat} (hn:num ≤ q.length) (x0 x1:Int) (x3:List (List Int)) (x4:List Int) (x5:LP) (x6 x7:Int) (x8:LP) (x9 a b z1 z2 z3:Int) (g:Int → Int → List SY) (ex:List SY) :
  ∀ (d k Z:Nat),1 ≤ k → k ≤ 101 → k + d = max k (num + 1) → d < Z → iter (zaP f) Z (.c0 (q,N,L,W,P,(List.range k).map (smq q),x0,x1,(num:Int),x3,x4,x5,x6,x7,x8,x9,a,b,z1,z2,z3,g,a,b,ex)) = some ((N,L,W,P,updF g a b ((List.range (k + d)).map (smq q)),()),((sumOf (q.take num)).1,()))
 | _,_,0,_,_,_,h => by omega
 | 0,k,Z + 1,hk,hk2,he,h => by
  show zaO f (iter (zaP f) Z) (.c0 (q,N,L,W,P,(List.range k).map (smq q),x0,x1,(num:Int),x3,x4,x5,x6,x7,x8,x9,a,b,z1,z2,z3,g,a,b,ex)) = _
  unfold zaO
  have hkn:num < k:=by omega
  simp only [zz_eq,List.length_map,List.length_range,show ¬ ((k:Int) ≤ (num:Int)) by omega,decide_false,cond_false,beq_self_eq_true,Bool.and_self,le_cast,lt_cast hkn,hkn,Int.toNat_natCast,decide_true,cond_true,getD_sm hkn,Nat.add_zero]
  rfl
 | d + 1,k,Z + 1,hk,hk2,he,h => by
  show zaO f (iter (zaP f) Z) (.c0 (q,N,L,W,P,(List.range k).map (smq q),x0,x1,(num:Int),x3,x4,x5,x6,x7,x8,x9,a,b,z1,z2,z3,g,a,b,ex)) = _
  unfold zaO
  have hkn:k ≤ num:=by omega
  have h1:k - 1 < k:=by omega
  have h2:k - 1 < q.length:=by omega
  have hq':∀ t ∈ q.take (k - 1),thingB t = true:=fun t ht => hq t (List.mem_of_mem_take ht)
  have hl':(q.take (k - 1)).length ≤ 100:=by rw [List.length_take]; omega
  have hs:(sumOf (q.take (k - 1))).2 = true:=ziL hq' (by omega)
  have hc:=zxP f hf (sumOf (q.take (k - 1))).1 (q.getD (k - 1) 0) (zxp hs).form (zmE _).knots
  rw [zxC hq' (hq _ (zD 0 h2)) (by omega),show q.take (k - 1) ++ [q.getD (k - 1) 0] = q.take k by rw [zxT h2]; congr 1; omega] at hc
  simp only [zz_eq,List.length_map,List.length_range,show ((k:Int) ≤ (num:Int)) by omega,w64_dn (show k ≠ 0 by omega) (show k < 4294967296 by omega),le_cast,lt_cast h1,lt_cast h2,h1,Int.toNat_natCast,decide_true,cond_true,getD_sm h1]
  refine (congrArg (fun o => Option.bind o _) hc).trans ?_
  rw [Option.bind_some]
  simp only [show k + 1 < LIM by unfold LIM; omega,decide_true,cond_true]
  have ih:=grow_c0 hf hq hl hn x0 x1 x3 x4 x5 x6 x7 x8 x9 a b z1 z2 z3 g ex d (k + 1) Z (by omega) (by omega) (by omega) (by omega)
  rw [show k + 1 + d = k + (d + 1) by omega,zxS] at ih
  exact ih
theorem EntT.iff {e:EY} (fr:Fr N P):EntT N P e ↔ CntT N P e ∧ flat e.2.2.2.1 = (sumOf ((pst P e.1.toNat e.2.1.toNat).take e.2.2.1.toNat)).1:=by
 refine ⟨fun h => ⟨⟨h.node,h.born,h.num⟩,h.sum.symm⟩,fun ⟨h1,h2⟩ => ⟨h1.node,h1.born,h1.num,?_,h2.symm⟩⟩
 have hb:=h1.born
 have hr:=pst_row (fr.past e.1.toNat (by have:=h1.node; omega)) (b:=e.2.1.toNat) (by omega)
 exact ziL (fun t ht => hr.1 t (List.mem_of_mem_take ht)) (by rw [List.length_take]; omega)
theorem zJp (hf:1000 < f) (fr:Fr N P) (e:EY) (hc:CntT N P e) {g:Int → Int → List SY} (hg:Cache P g):∃ g',Cache P g' ∧
  zkI f ((N,L,W,P,g,()),(e.1,e.2.1,e.2.2.1,e.2.2.2.1.1.1,e.2.2.2.1.2.1.1,e.2.2.2.1.2.2.1.1,e.2.2.2.1.2.2.1.2.1,e.2.2.2.1.2.2.1.2.2.1,e.2.2.2.1.2.2.2.1.1,e.2.2.2.1.2.2.2.1.2.1,()),()) =
   some ((N,L,W,P,g',()),((sumOf ((pst P e.1.toNat e.2.1.toNat).take e.2.2.1.toNat)).1,())):=by
 obtain ⟨x4,x5,x6,y,⟨⟩⟩:=e
 have c1:=hc.node; have c2:=hc.born; have c3:=hc.num
 simp only at c1 c2 c3
 have hi:x4.toNat < 5:=by omega
 have hp:=fr.past _ hi
 obtain ⟨r1,r2⟩:=pst_row hp (b:=x5.toNat) (by omega)
 have hlt:x5 < ((List.getD P x4.toNat []).length:Int):=by have:=hp.len; omega
 obtain ⟨n,rfl⟩:∃ n:Nat,x6 = n:=⟨x6.toNat,by omega⟩
 have hn:n ≤ (pst P x4.toNat x5.toNat).length:=by omega
 obtain ⟨k,hk1,hk⟩:=hg x4 x5
 refine ⟨updF g x4 x5 ((List.range (max (max 1 k) (n + 1))).map (smq (pst P x4.toNat x5.toNat))),hg.upd x4 x5 (by omega),?_⟩
 show zkH f (iter (zaP f) f) N L W P g x4 x5 (n:Int) y.1.1 y.2.1.1 y.2.2.1.1 y.2.2.1.2.1 y.2.2.1.2.2.1 y.2.2.2.1.1 y.2.2.2.1.2.1 = _
 unfold zkH
 simp only [beq_self_eq_true,Bool.and_self,cond_true,zz_eq,hk,List.length_map,List.length_range,fr.pasts,c1.1,show x4 < ((5:Nat):Int) by omega,show (0:Int) ≤ x5 by omega,hlt,decide_true,Int.toNat_natCast]
 cases k with
 | zero =>
  rw [beqT (show (((0:Nat):Int)) = 0 by omega),cond_true,zIZ,Option.bind_some]
  have:=grow_c0 (N:=N) (L:=L) (W:=W) (P:=P) hf r1 r2 hn x4 x5 y.1.1 y.2.1.1 y.2.2.1.1 y.2.2.1.2.1 y.2.2.1.2.2.1 y.2.2.2.1.1 y.2.2.2.1.2.1 x4 x5 0 0 0 g ((List.range 0).map (smq (pst P x4.toNat x5.toNat))) (max 1 (n + 1) - 1) 1 f (by omega) (by omega) (by omega) (by omega)
  rw [show 1 + (max 1 (n + 1) - 1) = max (max 1 0) (n + 1) by omega] at this
  exact this
 | succ k =>
  rw [beqF (show (((k + 1:Nat):Int)) ≠ 0 by omega),cond_false]
  have:=grow_c2 (N:=N) (L:=L) (W:=W) (P:=P) hf r1 r2 hn x4 x5 y.1.1 y.2.1.1 y.2.2.1.1 y.2.2.1.2.1 y.2.2.1.2.2.1 y.2.2.2.1.1 y.2.2.2.1.2.1 x4 x5 0 0 0 g (max (k + 1) (n + 1) - (k + 1)) (k + 1) f (by omega) (by omega) (by omega) (by omega)
  rw [show k + 1 + (max (k + 1) (n + 1) - (k + 1)) = max (max 1 (k + 1)) (n + 1) by omega] at this
  obtain ⟨f',rfl⟩:∃ f',f = f' + 1:=⟨f - 1,by omega⟩
  exact this
theorem zxU (hf:1000 < f) (fr:Fr N P) (l:List EY) (hl:l.length < 4294967296):∀ (d i Z:Nat) (p:Int) (g:Int → Int → List SY),i + d = l.length → d < Z → Cache P g →
  ∃ g',Cache P g' ∧ iter (zgZ f) Z ((i:Int),((l.length:Nat):Int),l,p,N,L,W,P,g) = some ((N,L,W,P,g',()),((dcd ((∀ e ∈ l.drop i,EntT N P e) ∧ ascP p (l.drop i)),()),()))
 | _,_,0,_,_,_,h,_ => by omega
 | 0,i,Z + 1,p,g,hi,h,hg => by
  obtain rfl:i = l.length:=by omega
  refine ⟨g,hg,?_⟩
  show zgY f _ _ = _
  unfold zgY
  simp only [zb,decide_false,cond_false]
  rw [List.drop_length,dcd_pos ⟨fun e h => (by cases h),trivial⟩]
 | d + 1,i,Z + 1,p,g,hi,h,hg => by
  have hil:i < l.length:=by omega
  have step:iter (zgZ f) (Z + 1) ((i:Int),((l.length:Nat):Int),l,p,N,L,W,P,g) = zgY f (iter (zgZ f) Z) ((i:Int),((l.length:Nat):Int),l,p,N,L,W,P,g):=rfl
  rw [step,z8 E0d hil]
  unfold zgY
  simp only [zz_eq,lt_cast hil,le_cast,decide_true,cond_true,Int.toNat_natCast,w64_up (show i < 4294967296 by omega)]
  by_cases c1:p < (List.getD l i E0d).1
  rotate_left
  ·refine ⟨g,hg,?_⟩
   simp only [show (List.getD l i E0d).1 ≤ p by omega,decide_true,cond_true]
   rw [dcd_neg fun h => c1 h.2.1]
  simp only [show ¬ (List.getD l i E0d).1 ≤ p by omega,decide_false,cond_false]
  rw [icnt_eq f fr,Option.bind_some]
  by_cases c2:CntT N P (List.getD l i E0d)
  rotate_left
  ·refine ⟨g,hg,?_⟩
   simp only [dcd_neg c2,Bool.not_false,cond_true]
   rw [dcd_neg fun h => c2 ((EntT.iff fr).1 (h.1 _ (List.mem_cons_self ..))).1]
  simp only [dcd_pos c2,Bool.not_true,cond_false]
  obtain ⟨g1,hg1,h1⟩:=zJp (L:=L) (W:=W) hf fr _ c2 hg
  rw [h1,Option.bind_some]
  have hs:=zJk f (flat (List.getD l i E0d).2.2.2.1) (sumOf ((pst P (List.getD l i E0d).1.toNat (List.getD l i E0d).2.1.toNat).take (List.getD l i E0d).2.2.1.toNat)).1 (zmE _) (by omega) (by omega)
  by_cases c3:flat (List.getD l i E0d).2.2.2.1 = (sumOf ((pst P (List.getD l i E0d).1.toNat (List.getD l i E0d).2.1.toNat).take (List.getD l i E0d).2.2.1.toNat)).1
  rotate_left
  ·refine ⟨g1,hg1,?_⟩
   refine (congrArg (fun o => Option.bind o _) hs).trans ?_
   rw [Option.bind_some]
   simp only [dcd_neg c3,Bool.not_false,cond_true]
   rw [dcd_neg fun h => c3 ((EntT.iff fr).1 (h.1 _ (List.mem_cons_self ..))).2]
  obtain ⟨g2,hg2,h2⟩:=zxU hf fr l hl d (i + 1) Z (List.getD l i E0d).1 g1 (by omega) (by omega) hg1
  refine ⟨g2,hg2,?_⟩
  refine (congrArg (fun o => Option.bind o _) hs).trans ?_
  rw [Option.bind_some]
  simp only [dcd_pos c3,Bool.not_true,cond_false]
  refine h2.trans ?_
  refine congrArg (fun b => some ((N,L,W,P,g2,()),((b,()),()))) (zu ⟨fun h => ⟨fun e he => ?_,c1,h.2⟩,fun h => ⟨fun e he => h.1 e (List.mem_cons_of_mem _ he),h.2.2⟩⟩)
  rcases List.mem_cons.1 he with rfl | he
  ·exact (EntT.iff fr).2 ⟨c2,c3⟩
  ·exact h.1 e he
theorem zxV (hf:1000 < f) (fr:Fr N P) (l:List EY) (hl:l.length < f) (hl2:l.length < 4294967296) {g:Int → Int → List SY} (hg:Cache P g):∃ g',Cache P g' ∧
  zg0 f ((N,L,W,P,g,()),(l,()),()) = some ((N,L,W,P,g',()),((dcd (KnT N P l),()),())):=by
 obtain ⟨g',h1,h2⟩:=zxU (L:=L) (W:=W) hf fr l hl2 l.length 0 f (-1) g (by omega) hl hg
 refine ⟨g',h1,?_⟩
 rw [zu KnT.iff]
 exact h2
theorem ib_dcd {p:Prop} {a b:Int} (h:a = b ↔ p):(a == b) = dcd p:=by
 by_cases c:a = b
 ·rw [beqT c,dcd_pos (h.1 c)]
 ·rw [beqF c,dcd_neg fun x => c (h.2 x)]
def TreeT (N:List NY) (i:Nat):Prop:=(i = 0 → RootT (nd N i) ∧ (nd N i).2.2.1 ≤ 1000) ∧ (i ≠ 0 → LeafT (nd N 0).2.2.1 i (nd N i))
theorem zJq (f:Nat) (hN:N.length = 5) {i:Nat} (hi:i < 5) (g:Int → Int → List SY) :
  zoA f ((N,L,W,P,g,()),((i:Int),()),()) = some ((N,L,W,P,g,()),((dcd (TreeT N i),()),())):=by
 show zoz f N L W P g (i:Int) = _
 unfold zoz
 simp only [zz_eq,hN,show (0:Int) < ((5:Nat):Int) by omega,le_cast,cst5 hi,decide_true,cond_true,Int.toNat_natCast,Int.toNat_zero]
 have fin:∀ {b:Bool},(b = true ↔ TreeT N i) → some ((N,L,W,P,g,()),((b,()),())) = some ((N,L,W,P,g,()),((dcd (TreeT N i),()),())):=fun {b} h => by
  cases b with
  | true => rw [dcd_pos (h.1 rfl)]
  | false => rw [dcd_neg fun c => by cases h.2 c]
 by_cases h0:i = 0
 ·subst h0
  rw [beqT (show ((0:Nat):Int) = 0 by omega),cond_true]
  have hT:TreeT N 0 ↔ ((nd N 0).2.2.2.1 = 0 ∧ (nd N 0).2.2.2.2.1 = -1 ∧ 0 ≤ (nd N 0).2.2.1 ∧ (nd N 0).2.2.1 ≤ 1000) :=
   ⟨fun h => ⟨(h.1 rfl).1.level,(h.1 rfl).1.up,(h.1 rfl).1.beacon,(h.1 rfl).2⟩,fun h => ⟨fun _ => ⟨⟨h.1,h.2.1,h.2.2.1⟩,h.2.2.2⟩,fun c => absurd rfl c⟩⟩
  by_cases c1:(nd N 0).2.2.2.1 = 0
  rotate_left
  ·rw [beqF c1,cond_false]; exact fin ⟨fun c => (by cases c),fun h => absurd (hT.1 h).1 c1⟩
  rw [beqT c1,cond_true]
  by_cases c2:(nd N 0).2.2.2.2.1 = -1
  rotate_left
  ·rw [beqF c2,cond_false]; exact fin ⟨fun c => (by cases c),fun h => absurd (hT.1 h).2.1 c2⟩
  rw [beqT c2,cond_true]
  by_cases c3:0 ≤ (nd N 0).2.2.1
  rotate_left
  ·simp only [show ¬ (nd N 0).2.2.1 ≥ 0 from c3,decide_false,cond_false]
   exact fin ⟨fun c => (by cases c),fun h => absurd (hT.1 h).2.2.1 c3⟩
  simp only [show (nd N 0).2.2.1 ≥ 0 from c3,decide_true,cond_true]
  exact fin ⟨fun c => hT.2 ⟨c1,c2,c3,of_decide_eq_true c⟩,fun h => decide_eq_true (hT.1 h).2.2.2⟩
 ·rw [beqF (show (i:Int) ≠ 0 by omega),cond_false]
  have hT:TreeT N i ↔ LeafT (nd N 0).2.2.1 i (nd N i):=⟨fun h => h.2 h0,fun h => ⟨fun c => absurd c h0,fun _ => h⟩⟩
  by_cases c1:0 ≤ (nd N i).2.2.1
  rotate_left
  ·simp only [show (nd N i).2.2.1 < 0 by omega,decide_true,cond_true]
   exact fin ⟨fun c => (by cases c),fun h => absurd (hT.1 h).beacon.1 c1⟩
  simp only [show ¬ (nd N i).2.2.1 < 0 by omega,decide_false,cond_false]
  by_cases c2:(nd N i).2.2.1 ≤ (nd N 0).2.2.1
  rotate_left
  ·simp only [show (nd N i).2.2.1 > (nd N 0).2.2.1 by omega,decide_true,cond_true]
   exact fin ⟨fun c => (by cases c),fun h => absurd (hT.1 h).beacon.2 c2⟩
  simp only [show ¬ (nd N i).2.2.1 > (nd N 0).2.2.1 by omega,decide_false,cond_false]
  by_cases c3:1 ≤ (nd N i).2.2.2.1
  rotate_left
  ·simp only [show (nd N i).2.2.2.1 < 1 by omega,decide_true,cond_true]
   exact fin ⟨fun c => (by cases c),fun h => absurd (hT.1 h).level.1 c3⟩
  simp only [show ¬ (nd N i).2.2.2.1 < 1 by omega,decide_false,cond_false]
  by_cases c4:(nd N i).2.2.2.1 ≤ 5
  rotate_left
  ·simp only [show (nd N i).2.2.2.1 > 5 by omega,decide_true,cond_true]
   exact fin ⟨fun c => (by cases c),fun h => absurd (hT.1 h).level.2 c4⟩
  simp only [show ¬ (nd N i).2.2.2.1 > 5 by omega,decide_false,cond_false]
  by_cases c5:(nd N i).2.2.2.1 = 5
  ·rw [beqT c5,cond_true]
   refine fin ⟨fun c => hT.2 ?_,fun h => beqT ((hT.1 h).far.2 c5)⟩
   have c6:(nd N i).2.2.2.2.1 = -1:=by simpa using c
   exact ⟨⟨c1,c2⟩,⟨c3,c4⟩,⟨fun _ => c5,fun _ => c6⟩,by omega,by omega⟩
  ·rw [beqF c5,cond_false,zqx,Option.bind_some]
   by_cases c6:0 ≤ (nd N i).2.2.2.2.1 ∧ (nd N i).2.2.2.2.1 ≤ 4
   rotate_left
   ·simp only [dcd_neg c6,cond_false]
    refine fin ⟨fun c => (by cases c),fun h => absurd ?_ c6⟩
    have h1:=(hT.1 h).up
    have h2:(nd N i).2.2.2.2.1 ≠ -1:=fun c => c5 ((hT.1 h).far.1 c)
    omega
   simp only [dcd_pos c6,cond_true]
   refine fin ⟨fun c => hT.2 ⟨⟨c1,c2⟩,⟨c3,c4⟩,⟨fun h => by omega,fun h => absurd h c5⟩,by omega,by simpa using c⟩,fun h => by simpa using (hT.1 h).ne⟩
def SelfT (N:List NY) (P:List (List (List Int))) (i:Nat):Prop:=KnT N P (nd N i).2.1 ∧ ∃ e,own (nd N i).2.1 (i:Int) = some e ∧ e.2.1 = (nd N i).1 ∧ e.2.2.1 = ((pst P i (nd N i).1.toNat).length:Int)
theorem zJr (hf:1000 < f) (fr:Fr N P) {i:Nat} (hi:i < 5) (hl:(nd N i).2.1.length < f) (hl2:(nd N i).2.1.length < 4294967296) {g:Int → Int → List SY} (hg:Cache P g):∃ g',Cache P g' ∧
  zkN f ((N,L,W,P,g,()),((i:Int),()),()) = some ((N,L,W,P,g',()),((dcd (SelfT N P i),()),())):=by
 obtain ⟨g',hg',h1⟩:=zxV (L:=L) (W:=W) hf fr (nd N i).2.1 hl hl2 hg
 refine ⟨g',hg',?_⟩
 show zkM f (iter (zkL f) f) N L W P g (i:Int) = _
 unfold zkM
 simp only [zz_eq,fr.nodes,le_cast,cst5 hi,decide_true,cond_true,Int.toNat_natCast,h1,Option.bind_some]
 by_cases c:KnT N P (nd N i).2.1
 rotate_left
 ·simp only [dcd_neg c,Bool.not_false,cond_true]
  rw [dcd_neg fun h:SelfT N P i => c h.1]
 simp only [dcd_pos c,Bool.not_true,cond_false]
 have hb:=fr.born i hi
 have hp:=fr.past i hi
 have hb1:(0:Int) ≤ (nd N i).1:=by omega
 have hb2:(nd N i).1 < ((List.getD P i []).length:Int):=by have:=hp.len; omega
 refine (zt (st:=zkL f) (enc:=fun k (s:Unit) => ((k:Int),(((nd N i).2.1.length:Nat):Int),(nd N i).2.1,(i:Int),N,L,W,P,(nd N i).1,(nd N i).2.1,(nd N i).2.2.1,(nd N i).2.2.2.1,(nd N i).2.2.2.2.1,g'))
  (fun x k s => cond (x.1 == (i:Int)) (some ((N,L,W,P,g',()),((dcd (x.2.1 = (nd N i).1 ∧ x.2.2.1 = ((pst P i (nd N i).1.toNat).length:Int)),()),()))) (k s)) (fun s => some ((N,L,W,P,g',()),((false,()),()))) (nd N i).2.1 E0d ?_ ?_ f () hl).trans ?_
 ·intro k s g2 hk
  show zg3 f g2 _ = _
  unfold zg3
  simp only [zz_eq,lt_cast hk,le_cast,fr.pasts,cst5 hi,hb1,hb2,decide_true,cond_true,Int.toNat_natCast,w64_up (show k < 4294967296 by omega)]
  by_cases c1:(List.getD (nd N i).2.1 k E0d).2.1 = (nd N i).1
  ·rw [beqT c1,cond_true,ib_dcd (p:=(List.getD (nd N i).2.1 k E0d).2.1 = (nd N i).1 ∧ (List.getD (nd N i).2.1 k E0d).2.2.1 = ((pst P i (nd N i).1.toNat).length:Int)) ⟨fun h => ⟨c1,h⟩,fun h => h.2⟩]
  ·rw [beqF c1,cond_false,dcd_neg fun h => c1 h.1]
 ·intro s g2
  show zg3 f g2 _ = _
  unfold zg3
  simp only [zb,decide_false,cond_false]
 ·have gen:∀ l:List EY,goL (σ:=Unit) (fun x k s => cond (x.1 == (i:Int)) (some ((N,L,W,P,g',()),((dcd (x.2.1 = (nd N i).1 ∧ x.2.2.1 = ((pst P i (nd N i).1.toNat).length:Int)),()),()))) (k s)) (fun s => some ((N,L,W,P,g',()),((false,()),()))) l () =
    some ((N,L,W,P,g',()),((dcd (∃ e,own l (i:Int) = some e ∧ e.2.1 = (nd N i).1 ∧ e.2.2.1 = ((pst P i (nd N i).1.toNat).length:Int)),()),())):=by
   intro l
   induction l with
   | nil => rw [dcd_neg fun ⟨e,h,_⟩ => by cases h]; rfl
   | cons x l ih =>
    show cond (x.1 == (i:Int)) _ (goL _ _ l ()) = _
    by_cases c1:x.1 = (i:Int)
    ·rw [beqT c1,cond_true]
     have ho:own (x :: l) (i:Int) = some x:=by unfold own; rw [List.find?_cons,beqT c1]
     refine congrArg (fun b => some ((N,L,W,P,g',()),((b,()),()))) (zu ⟨fun h => ⟨x,ho,h⟩,fun ⟨e,h,h2⟩ => ?_⟩)
     rw [ho] at h; cases h; exact h2
    ·rw [beqF c1,cond_false,ih]
     have ho:own (x :: l) (i:Int) = own l (i:Int):=by unfold own; rw [List.find?_cons,beqF c1]
     rw [ho]
  rw [gen]
  exact congrArg (fun b => some ((N,L,W,P,g',()),((b,()),()))) (zu ⟨fun h => ⟨c,h⟩,fun h => h.2⟩)
theorem zJs (hf:1000 < f) (fr:Fr N P) (w:WY) (hl:w.2.2.2.2.2.1.length < f) (hl2:w.2.2.2.2.2.1.length < 4294967296) {g:Int → Int → List SY} (hg:Cache P g):∃ g',Cache P g' ∧
  zoK f ((N,L,W,P,g,()),(w.1,w.2.1,w.2.2.1,w.2.2.2.1,w.2.2.2.2.1,w.2.2.2.2.2.1,()),()) = some ((N,L,W,P,g',()),((dcd (WordT N P w),()),())):=by
 obtain ⟨x0,x1,x2,x3,x4,x5,⟨⟩⟩:=w
 show ∃ g',Cache P g' ∧ zoJ f N L W P g x0 x1 x2 x3 x4 x5 = _
 unfold zoJ
 simp only [zqx,Option.bind_some,zz_eq,fr.nodes,show (0:Int) < ((5:Nat):Int) by omega,Int.toNat_zero,decide_true,cond_true]
 have no:∀ {q:Prop},¬ q → (WordT N P (x0,x1,x2,x3,x4,x5,()) → q) → ∃ g',Cache P g' ∧ some ((N,L,W,P,g,()),((false,()),())) = some ((N,L,W,P,g',()),((dcd (WordT N P (x0,x1,x2,x3,x4,x5,())),()),())):=fun h1 h2 => ⟨g,hg,by rw [dcd_neg fun h => h1 (h2 h)]⟩
 by_cases c1:0 ≤ x1 ∧ x1 ≤ 4
 rotate_left
 ·simp only [dcd_neg c1,Bool.not_false,cond_true]; exact no c1 fun h => h.from_
 simp only [dcd_pos c1,Bool.not_true,cond_false]
 by_cases c2:0 ≤ x2 ∧ x2 ≤ 4
 rotate_left
 ·simp only [dcd_neg c2,Bool.not_false,cond_true]; exact no c2 fun h => h.to_
 simp only [dcd_pos c2,Bool.not_true,cond_false]
 by_cases c3:x1 = x2
 ·rw [beqT c3,cond_true]; exact no (fun h => h c3) fun h => h.ne
 rw [beqF c3,cond_false]
 by_cases k1:x0 = 1
 ·subst k1
  rw [beqT rfl,cond_true]
  have kd:WordT N P (1,x1,x2,x3,x4,x5,()) → (0 ≤ x3 ∧ x3 ≤ (nd N 0).2.2.1) ∧ (0 ≤ x4 ∧ x4 ≤ 4) ∧ x5 = []:=fun h => by
   rcases h.kind with ⟨_,h⟩ | ⟨h,_⟩
   ·exact h
   ·cases h
  by_cases c4:0 ≤ x3
  rotate_left
  ·simp only [show ¬ x3 ≥ 0 from c4,decide_false,cond_false]; exact no c4 fun h => (kd h).1.1
  simp only [show x3 ≥ 0 from c4,decide_true,cond_true]
  by_cases c5:x3 ≤ (nd N 0).2.2.1
  rotate_left
  ·simp only [c5,decide_false,cond_false]; exact no c5 fun h => (kd h).1.2
  simp only [c5,decide_true,cond_true]
  by_cases c6:0 ≤ x4
  rotate_left
  ·simp only [show ¬ x4 ≥ 0 from c6,decide_false,cond_false]; exact no c6 fun h => (kd h).2.1.1
  simp only [show x4 ≥ 0 from c6,decide_true,cond_true]
  by_cases c7:x4 ≤ 4
  rotate_left
  ·simp only [show ¬ x4 < 5 by omega,decide_false,cond_false]; exact no c7 fun h => (kd h).2.1.2
  simp only [show x4 < 5 by omega,decide_true,cond_true]
  refine ⟨g,hg,?_⟩
  rw [ib_dcd (p:=WordT N P (1,x1,x2,x3,x4,x5,())) ⟨fun h => ⟨c1,c2,c3,.inl ⟨rfl,⟨c4,c5⟩,⟨c6,c7⟩,List.eq_nil_of_length_eq_zero (show x5.length = 0 by have h':((x5.length:Nat):Int) = 0:=h; omega)⟩⟩,fun h => by rw [(kd h).2.2]; rfl⟩]
 rw [beqF k1,cond_false]
 by_cases k2:x0 = 2
 rotate_left
 ·rw [beqF k2,cond_false]
  exact no (q:=x0 = 1 ∨ x0 = 2) (fun h => h.elim k1 k2) fun h => h.kind.elim (fun h => .inl h.1) fun h => .inr h.1
 subst k2
 rw [beqT rfl,cond_true]
 have kd:WordT N P (2,x1,x2,x3,x4,x5,()) → x3 = 0 ∧ x4 = 0 ∧ KnT N P x5:=fun h => by
  rcases h.kind with ⟨h,_⟩ | ⟨_,h⟩
  ·cases h
  ·exact h
 by_cases c4:x3 = 0
 rotate_left
 ·rw [beqF c4,cond_false]; exact no c4 fun h => (kd h).1
 rw [beqT c4,cond_true]
 by_cases c5:x4 = 0
 rotate_left
 ·rw [beqF c5,cond_false]; exact no c5 fun h => (kd h).2.1
 rw [beqT c5,cond_true]
 obtain ⟨g',hg',h1⟩:=zxV (L:=L) (W:=W) hf fr x5 hl hl2 hg
 refine ⟨g',hg',?_⟩
 rw [h1,Option.bind_some]
 exact congrArg (fun b => some ((N,L,W,P,g',()),((b,()),()))) (zu ⟨fun h => ⟨c1,c2,c3,.inr ⟨rfl,c4,c5,h⟩⟩,fun h => (kd h).2.2⟩)
end
end Go.Proofs.YtljojacnjjgceaaGreat.Den
namespace Go.Proofs.YtljojacnjjgceaaGreat.Den
open Go Go.RowKit
section
variable {f:Nat} {N:List NY} {L:List Bool} {W:List WY} {P:List (List (List Int))}
theorem zxW (hf:1000 < f) (fr:Fr N P) (l:List WY) (hl:l.length < 4294967296) (hk:∀ w ∈ l,w.2.2.2.2.2.1.length < f ∧ w.2.2.2.2.2.1.length < 4294967296):∀ (d i Z:Nat) (g:Int → Int → List SY),i + d = l.length → d < Z → Cache P g →
  iter (zcn f) Z ((i:Int),((l.length:Nat):Int),l,N,L,W,P,g) = some ((dcd (∀ w ∈ l.drop i,WordT N P w),()),())
 | _,_,0,_,_,h,_ => by omega
 | 0,i,Z + 1,g,hi,h,hg => by
  obtain rfl:i = l.length:=by omega
  show zg4 f _ _ = _
  unfold zg4
  simp only [zb,decide_false,cond_false]
  rw [List.drop_length,dcd_pos fun w h => (by cases h)]
 | d + 1,i,Z + 1,g,hi,h,hg => by
  have hil:i < l.length:=by omega
  have hw:=hk _ (zD W0d hil)
  obtain ⟨g1,hg1,h1⟩:=zJs (L:=L) (W:=W) hf fr (List.getD l i W0d) hw.1 hw.2 hg
  rw [z8 W0d hil]
  show zg4 f (iter (zcn f) Z) _ = _
  unfold zg4
  simp only [zz_eq,lt_cast hil,le_cast,decide_true,cond_true,Int.toNat_natCast,w64_up (show i < 4294967296 by omega),h1,Option.bind_some]
  by_cases c:WordT N P (List.getD l i W0d)
  rotate_left
  ·simp only [dcd_neg c,Bool.not_false,cond_true]
   rw [dcd_neg fun h => c (h _ (List.mem_cons_self ..))]
  simp only [dcd_pos c,Bool.not_true,cond_false]
  rw [zxW hf fr l hl hk d (i + 1) Z g1 (by omega) (by omega) hg1]
  refine congrArg (fun b => some ((b,()),())) (zu ⟨fun h w hw => ?_,fun h w hw => h w (List.mem_cons_of_mem _ hw)⟩)
  rcases List.mem_cons.1 hw with rfl | hw
  ·exact c
  ·exact h w hw
theorem zxX (hf:1000 < f) (fr:Fr N P) (hk:∀ a,a < 5 → (nd N a).2.1.length < f ∧ (nd N a).2.1.length < 4294967296):∀ (d i Z:Nat) (g:Int → Int → List SY),i + d = 5 → d < Z → Cache P g →
  ∃ g',Cache P g' ∧ iter (zaQ f) Z ((i:Int),((5:Nat):Int),N,L,W,P,N,L,W,P,g) = cond (dcd (∀ j,i ≤ j → j < 5 → TreeT N j ∧ SelfT N P j)) (iter (zcn f) f ((0:Int),((W.length:Nat):Int),W,N,L,W,P,g')) (some ((false,()),()))
 | _,_,0,_,_,h,_ => by omega
 | 0,i,Z + 1,g,hi,h,hg => by
  obtain rfl:i = 5:=by omega
  refine ⟨g,hg,?_⟩
  have step:iter (zaQ f) (Z + 1) (((5:Nat):Int),((5:Nat):Int),N,L,W,P,N,L,W,P,g) = zd7 f (iter (zcn f) f) (iter (zaQ f) Z) (((5:Nat):Int),((5:Nat):Int),N,L,W,P,N,L,W,P,g):=rfl
  rw [dcd_pos fun j h1 h2 => by omega,cond_true,step]
  unfold zd7
  simp only [zb,decide_false,cond_false,zz_eq]
 | d + 1,i,Z + 1,g,hi,h,hg => by
  have hi5:i < 5:=by omega
  obtain ⟨g1,hg1,h1⟩:=zJr (L:=L) (W:=W) hf fr hi5 (hk i hi5).1 (hk i hi5).2 hg
  have step:iter (zaQ f) (Z + 1) ((i:Int),((5:Nat):Int),N,L,W,P,N,L,W,P,g) = zd7 f (iter (zcn f) f) (iter (zaQ f) Z) ((i:Int),((5:Nat):Int),N,L,W,P,N,L,W,P,g):=rfl
  rw [step]
  unfold zd7
  simp only [cst5 hi5,decide_true,cond_true,zJq f fr.nodes hi5,h1,Option.bind_some,w64_up (show i < 4294967296 by omega)]
  by_cases c1:TreeT N i
  rotate_left
  ·refine ⟨g,hg,?_⟩
   simp only [dcd_neg c1,Bool.not_false,cond_true]
   rw [dcd_neg fun h => c1 (h i (by omega) hi5).1,cond_false]
  by_cases c2:SelfT N P i
  rotate_left
  ·refine ⟨g,hg,?_⟩
   simp only [dcd_pos c1,dcd_neg c2,Bool.not_false,Bool.not_true,cond_true,cond_false]
   rw [dcd_neg fun h => c2 (h i (by omega) hi5).2,cond_false]
  obtain ⟨g2,hg2,h2⟩:=zxX hf fr hk d (i + 1) Z g1 (by omega) (by omega) hg1
  refine ⟨g2,hg2,?_⟩
  simp only [dcd_pos c1,dcd_pos c2,Bool.not_true,cond_false]
  refine h2.trans ?_
  congr 1
  refine zu ⟨fun h j h3 h4 => ?_,fun h j h3 h4 => h j (by omega) h4⟩
  rcases Nat.eq_or_lt_of_le h3 with h5 | h5
  ·subst h5; exact ⟨c1,c2⟩
  ·exact h j (by omega) h4
theorem zJt {n:Nat} (hn:n < 1000000000) (hnf:n < f) (hf:1000 < f) (hs:SmallN n N L W P):zkP f ((N,L,W,P,()),()) = some ((dcd (NetT N L W P),()),()):=by
 show zkO f (iter (zg5 f) f) N L W P = _
 unfold zkO
 simp only [zz_eq]
 by_cases c1:N.length = 5
 rotate_left
 ·rw [bneT (show ((N.length:Nat):Int) ≠ 5 by omega),cond_true,dcd_neg fun h:NetT N L W P => c1 h.nodes]
 rw [bneF (show ((N.length:Nat):Int) = 5 by omega),cond_false]
 by_cases c2:P.length = 5
 rotate_left
 ·rw [bneT (show ((P.length:Nat):Int) ≠ 5 by omega),cond_true,dcd_neg fun h:NetT N L W P => c2 h.pasts]
 rw [bneF (show ((P.length:Nat):Int) = 5 by omega),cond_false,zJl f hf,Option.bind_some]
 by_cases c3:L.length = 25 ∧ ∀ a,a < 5 → LinkT L a
 rotate_left
 ·simp only [dcd_neg c3,Bool.not_false,cond_true]
  rw [dcd_neg fun h:NetT N L W P => c3 ⟨h.links,h.link⟩]
 simp only [dcd_pos c3,Bool.not_true,cond_false]
 by_cases c4:W.length ≤ 24
 rotate_left
 ·simp only [show ((W.length:Nat):Int) > 24 by omega,decide_true,cond_true]
  rw [dcd_neg fun h:NetT N L W P => c4 h.words]
 simp only [show ¬ ((W.length:Nat):Int) > 24 by omega,decide_false,cond_false,c1]
 have l0:iter (zg5 f) f ((0:Int),((5:Nat):Int),N,L,W,P) = cond (dcd (∀ a,0 ≤ a → a < 0 + 5 → (1 ≤ (nd N a).1 ∧ (nd N a).1 ≤ 20) ∧ PastT N P a)) (iter (zaQ f) f ((0:Int),((5:Nat):Int),N,L,W,P,N,L,W,P,fun _ _ => [])) (some ((false,()),())):=by
  refine (iter_up (st:=zg5 f) (enc:=fun i (s:Unit) => ((i:Int),((5:Nat):Int),N,L,W,P)) (body:=fun i k s => cond (dcd ((1 ≤ (nd N i).1 ∧ (nd N i).1 ≤ 20) ∧ PastT N P i)) (k s) (some ((false,()),()))) (fin:=fun _ => iter (zaQ f) f ((0:Int),((5:Nat):Int),N,L,W,P,N,L,W,P,fun _ _ => [])) 5 ?_ ?_ 5 0 () f (by omega) (by omega)).trans (up_all _ _ 5 0)
  ·intro i s g hi
   show zd8 f _ g _ = _
   unfold zd8
   simp only [zz_eq,cst5 hi,le_cast,c1,c2,decide_true,cond_true,Int.toNat_natCast,w64_up (show i < 4294967296 by omega)]
   rw [zJn (N:=N) hn hnf c2 hi hs.past,Option.bind_some]
   cases dcd ((1 ≤ (nd N i).1 ∧ (nd N i).1 ≤ 20) ∧ PastT N P i) <;> rfl
  ·intro s g
   show zd8 f _ g _ = _
   unfold zd8
   simp only [zb,decide_false,cond_false,zz_eq,c1]
 rw [l0]
 refine zw (fun hA => ?_) fun hA => ?_
 rotate_left
 ·rw [dcd_neg fun h:NetT N L W P => hA fun a _ ha => ⟨h.born a (by omega),h.past a (by omega)⟩]
 have fr:Fr N P:=⟨c1,c2,fun a ha => (hA a (by omega) (by omega)).1,fun a ha => (hA a (by omega) (by omega)).2⟩
 have hnk:∀ a,a < 5 → (nd N a).2.1.length < f ∧ (nd N a).2.1.length < 4294967296:=fun a ha => by
  have:=(hs.known _ (zD N0d (show a < N.length by omega))).1
  exact ⟨Nat.lt_of_le_of_lt this hnf,Nat.lt_of_le_of_lt this (by omega)⟩
 have hwk:∀ w ∈ W,w.2.2.2.2.2.1.length < f ∧ w.2.2.2.2.2.1.length < 4294967296:=fun w hw => by
  have:=(hs.said w hw).1
  exact ⟨Nat.lt_of_le_of_lt this hnf,Nat.lt_of_le_of_lt this (by omega)⟩
 obtain ⟨g1,hg1,h1⟩:=zxX (L:=L) (W:=W) hf fr hnk 5 0 f (fun _ _ => []) (by omega) (by omega) zJo
 refine h1.trans ?_
 refine zw (fun hN => ?_) fun hN => ?_
 rotate_left
 ·rw [dcd_neg fun h:NetT N L W P => hN fun a _ ha => ⟨⟨fun h0 => by subst h0; exact ⟨(h.node 0 ha).root rfl,h.beacon⟩,(h.node a ha).leaf⟩,(h.node a ha).known,(h.node a ha).own⟩]
 refine (zxW (L:=L) (W:=W) hf fr W (by omega) hwk W.length 0 f g1 (by omega) (by omega) hg1).trans ?_
 refine congrArg (fun b => some ((b,()),())) (zu ⟨fun h => ?_,fun h w hw => h.word w hw⟩)
 exact {
  nodes:=c1
  pasts:=c2
  links:=c3.1
  words:=c4
  born:=fun a ha => (hA a (by omega) (by omega)).1
  past:=fun a ha => (hA a (by omega) (by omega)).2
  link:=c3.2
  node:=fun a ha => ⟨(hN a (by omega) ha).2.2,(hN a (by omega) ha).2.1,fun h0 => ((hN a (by omega) ha).1.1 h0).1,(hN a (by omega) ha).1.2⟩
  word:=h
  beacon:=((hN 0 (by omega) (by omega)).1.1 rfl).2 }
end
end Go.Proofs.YtljojacnjjgceaaGreat.Den
namespace Go.Proofs.YtljojacnjjgceaaGreat.Den
open Go Go.RowKit
theorem zJu {y:SY} {n:Nat} (h:szK KS y ≤ n):SmallS (flat y) n:=by
 obtain ⟨⟨rs,⟨⟩⟩,⟨ms,⟨⟩⟩,⟨ps,lost,tall,⟨⟩⟩,⟨ks,rall,⟨⟩⟩,⟨⟩⟩:=y
 have e:szK KS ((rs,()),(ms,()),(ps,lost,tall,()),(ks,rall,()),()) = szK (.list (.list I6)) rs + (szK (.list I6) ms + (szK (.list KP) ps + (szK (.list KP) ks + 0))):=by
  simp only [szK]; omega
 rw [e] at h
 have l1:=szK_len (e:=.list I6) (xs:=rs); have l2:=szK_len (e:=I6) (xs:=ms); have l3:=szK_len (e:=KP) (xs:=ps); have l4:=szK_len (e:=KP) (xs:=ks)
 refine ⟨Nat.le_trans l1 (by omega),fun r hr => ?_,Nat.le_trans l2 (by omega),Nat.le_trans l3 (by omega),Nat.le_trans l4 (by omega)⟩
 have hr':r ∈ rs:=hr
 have h1:=szK_mem (e:=.list I6) hr'
 have h2:=szK_len (e:=I6) (xs:=r)
 exact Nat.le_trans h2 (by omega)
theorem zxY {l:List EY} {n:Nat} (h:szK (.list KE) l ≤ n):SmallE n l:=by
 refine ⟨Nat.le_trans (szK_len (e:=KE) (xs:=l)) h,fun e he => zJu ?_⟩
 have h1:=szK_mem (e:=KE) he
 have h2:szK KE e = szK KS e.2.2.2.1:=by simp only [szK]; omega
 omega
theorem zJv {N:List NY} {L:List Bool} {W:List WY} {P:List (List (List Int))} {n:Nat} (h:szK KNET (N,L,W,P,()) ≤ n):SmallN n N L W P:=by
 have e:szK KNET (N,L,W,P,()) = szK (.list KN) N + (szK (.list .bool) L + (szK (.list KW) W + (szK (.list (.list (.list I6))) P + 0))):=by simp only [szK]
 rw [e] at h
 have l1:=szK_len (e:=KN) (xs:=N); have l2:=szK_len (e:=.bool) (xs:=L); have l3:=szK_len (e:=KW) (xs:=W); have l4:=szK_len (e:=.list (.list I6)) (xs:=P)
 refine ⟨Nat.le_trans l1 (by omega),fun x hx => zxY ?_,Nat.le_trans l2 (by omega),Nat.le_trans l3 (by omega),fun w hw => zxY ?_,Nat.le_trans l4 (by omega),fun p hp => ⟨?_,fun r hr => ?_⟩⟩
 ·have h1:=szK_mem (e:=KN) hx
  have h2:szK KN x = szK (.list KE) x.2.1:=by simp only [szK]; omega
  omega
 ·have h1:=szK_mem (e:=KW) hw
  have h2:szK KW w = szK (.list KE) w.2.2.2.2.2.1:=by simp only [szK]; omega
  omega
 ·have h1:=szK_mem (e:=.list (.list I6)) hp
  have h2:=szK_len (e:=.list I6) (xs:=p)
  exact Nat.le_trans h2 (by omega)
 ·have h1:=szK_mem (e:=.list (.list I6)) hp
  have h2:=szK_mem (e:=.list I6) hr
  have h3:=szK_len (e:=I6) (xs:=r)
  exact Nat.le_trans h3 (by omega)
theorem lawExactNetOk (f:Nat) (hf:2000000 < f) (n:NetY) (hw:wfD KNET n):zmb f ((n.1,n.2.1,n.2.2.1,n.2.2.2.1,()),()) = some ((true,()),()):=by
 show zpA f n.1 n.2.1 n.2.2.1 n.2.2.2.1 = _
 unfold zpA
 rw [zIx f (by omega) n hw,Option.bind_some]
 by_cases hs:szK KNET n ≤ 1048576
 ·rw [szR_yes (by omega),decide_eq_false (by simp; omega),cond_false]
  have e1:=zII f (by omega) n hs
  have sm:SmallN 1048576 n.1 n.2.1 n.2.2.1 n.2.2.2.1:=zJv hs
  have e2:=zJg (f:=f) (n:=1048576) (by omega) (by omega) (by omega) sm
  have e3:=zJt (f:=f) (n:=1048576) (by omega) (by omega) (by omega) sm
  have e5:=zIT f (by omega) n hs
  simp only [e1,Option.bind_some,e2,e3,e5,beq_self_eq_true,Bool.not_true,cond_false]
 ·rw [szR_no (by omega),decide_eq_true (by decide),cond_true]
theorem crel_sl {w:World} {B:Nat → Prop} {e:Kd} {xs:List e.T} {cs:List Value} (h:CRel w B (.list e) xs cs):∃ u,cs = [u]:=by
 simp only [CRel] at h
 obtain ⟨a,c,he,_⟩:=h
 exact ⟨_,he⟩
theorem wx_net {w:World} {B:Nat → Prop} {n:NetY} {us:List Value} (h:CRel w B KNET n us):WX w B (.dat (.list KN) (.dat (.list .bool) (.dat (.list KW) (.dat (.list (.list (.list I6))) .nil)))) n us []:=by
 obtain ⟨c1,r1,rfl,h1,c2,r2,rfl,h2,c3,r3,rfl,h3,c4,r4,rfl,h4,h5⟩:=h
 obtain ⟨u1,rfl⟩:=crel_sl h1
 obtain ⟨u2,rfl⟩:=crel_sl h2
 obtain ⟨u3,rfl⟩:=crel_sl h3
 obtain ⟨u4,rfl⟩:=crel_sl h4
 exact ⟨u1,_,rfl,h1,u2,_,rfl,h2,u3,_,rfl,h3,u4,_,rfl,h4,h5,rfl⟩
theorem pureExactNetOk (n:NetY) (hw:wfD KNET n):∃ Z,zmb Z ((n.1,n.2.1,n.2.2.1,n.2.2.2.1,()),()) = some ((true,()),()):=⟨2000001,lawExactNetOk 2000001 (by omega) n hw⟩
end Go.Proofs.YtljojacnjjgceaaGreat.Den
