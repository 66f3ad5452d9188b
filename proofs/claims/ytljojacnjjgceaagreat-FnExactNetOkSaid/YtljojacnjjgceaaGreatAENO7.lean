/- Part 7 of the texts behind the row. -/
import Derived.Test.YtljojacnjjgceaaGreatAENO6
import Derived.RangeFuncBox
import Derived.RangeFuncNested
import Derived.RangeFuncBound
import Derived.RangeFuncCalls
import Derived.RangeFuncLeaves
import Derived.Shelf.Abstract
import Derived.Shelf.RegionOpen
import Derived.WalkKit
import Derived.OwnWalkIn
import Derived.TacticsInMore
import Derived.LoopNIn
import Derived.LoopIn
import Derived.Maps.AppendAt
import Derived.Test.YtljojacnjjgceaaGreatProg
set_option linter.unusedVariables false
set_option linter.unusedSimpArgs false
namespace Go.Proofs.YtljojacnjjgceaaGreat.Den
open Go Go.Proofs Go.RowKit Go.Shelf
attribute [local go_sem] Oper.semAt_some
def headM (a b:List Int):Int:=match a,b with
 | [],[] => 64
 | x :: _,[] => x
 | [],y :: _ => y
 | x :: _,y :: _ => if y < x then y else x
def cutM (m:Int) (a:List Int):List Int:=match a with
 | [] => []
 | x :: r => cond (x == m) r (x :: r)
def mergeM:Nat → List Int → List Int → List Int
 | 0,_,_ => []
 | n + 1,a,b => cond (a.isEmpty && b.isEmpty) [] (headM a b :: mergeM n (cutM (headM a b) a) (cutM (headM a b) b))
namespace Few
def Sl (n₀:Nat) (W:World) (v:Value) (xs:List Int):Prop:=∃ (p:Option Addr) (cap:Nat),v = .slice p xs.length cap ∧ xs.length ≤ cap ∧
 (xs = [] ∨ ∃ b o,p = some ⟨b,o,none⟩ ∧ b < n₀ ∧ ∀ j,j < xs.length → W.cell? ⟨b,o + j,none⟩ = some (.int .i64 (xs.getD j 0)))
theorem Sl.below {n₀:Nat} {A B:World} (h:Below n₀ A B) {v:Value} {xs:List Int}:Sl n₀ A v xs → Sl n₀ B v xs
 | ⟨p,cap,e,hc,.inl h0⟩ => ⟨p,cap,e,hc,.inl h0⟩
 | ⟨p,cap,e,hc,.inr ⟨b,o,hp,hb,hx⟩⟩ => ⟨p,cap,e,hc,.inr ⟨b,o,hp,hb,fun j hj => (h.cell (p:=⟨b,o + j,none⟩) hb).trans (hx j hj)⟩⟩
def lenV:Value → Nat
 | .slice _ n _ => n
 | _ => 0
set_option maxHeartbeats 1000000 in
theorem marks_in (F:Fence) (n:Nat) (h5:F.fn 181) (hro:F.round = none) (p q:Option Addr) (l m c d:Nat) (w:World) :
  CallsIn F n Tryz.prog 181 #[.slice p l c,.slice q m d] w fun e w' => e = .returned (.func (.func 194) #[] #[.pointer (some ⟨w.heap.size,0,none⟩),.pointer (some ⟨w.heap.size + 1,0,none⟩)]) ∧ w' = (w.alloc (.cells #[.slice p l c] 23)).alloc (.cells #[.slice q m d] 23):=by
 refine callsIn_of_wp Tryz.func181 rfl h5 ?_ hro
 simp only [Tryz.ntmps181,List.size_toArray,List.length_cons,List.length_nil,Nat.reduceAdd,Nat.reduceSub,Array.replicate_succ,Array.replicate_zero,List.push_toArray,List.append_toArray,List.nil_append,List.cons_append]
 gi_wp2
 go_ret
 exact ⟨rfl,rfl⟩
theorem ziE:∀ {f:Nat},mergeM f [] [] = []
 | 0 => rfl
 | f + 1 => rfl
theorem Sl.zero {n₀:Nat} {W:World} {p:Option Addr} {xs:List Int} (h:xs.length ≤ 0):Sl n₀ W (.slice p xs.length 0) xs :=
 ⟨p,0,rfl,h,.inl (List.length_eq_zero_iff.1 (by omega))⟩
theorem Sl.slice {n₀:Nat} {W:World} {v:Value} {xs:List Int} (h:Sl n₀ W v xs):∃ p c,v = .slice p xs.length c:=by
 obtain ⟨p,c,e,_⟩:=h; exact ⟨p,c,e⟩
theorem Sl.cons {n₀:Nat} {W:World} {v:Value} {x:Int} {xs:List Int} (h:Sl n₀ W v (x :: xs)):∃ b o c,v = .slice (some ⟨b,o,none⟩) (xs.length + 1) c ∧ xs.length + 1 ≤ c ∧ b < n₀ ∧ W.cell? ⟨b,o,none⟩ = some (.int .i64 x) ∧
  Sl n₀ W (.slice (some ⟨b,o + 1,none⟩) xs.length (c - 1)) xs:=by
 obtain ⟨p,c,e,hc,h⟩:=h
 rcases h with h | ⟨b,o,rfl,hb,hx⟩
 ·cases h
 ·simp only [List.length_cons] at hc hx
  refine ⟨b,o,c,e,hc,hb,hx 0 (by omega),_,_,rfl,by omega,?_⟩
  cases xs with
  | nil => exact .inl rfl
  | cons y ys => exact .inr ⟨b,o + 1,rfl,hb,fun j hj => by
    have:=hx (j + 1) (by omega)
    rw [show o + (j + 1) = o + 1 + j from by omega,List.getD_cons_succ] at this
    exact this⟩
set_option maxRecDepth 100000 in
set_option maxHeartbeats 4000000 in
theorem iter1_in (F:Fence) (n:Nat) (h6:F.fn 194) (hro:F.round = none) (hn:1 ≤ n) (l Ba Bb n₀:Nat) (va vb:Value) (a b:List Int) (ha:∀ x ∈ a,x ≤ 63) (hb:∀ x ∈ b,x ≤ 63) (hla:a.length ≤ 6) (hlb:b.length ≤ 6) (J Jx:List Int → World → Prop) (hJd:∀ {s W},J s W → J s W.drew)
  (hY:∀ pre x W,J pre W → pre.length < 12 → YieldAt F (n - 1) Tryz.prog l #[.int .i64 x] W fun e W' =>
   (e = .returned (.bool true) ∧ J (pre ++ [x]) W' ∧ Below n₀ W W') ∨ (e = .returned (.bool false) ∧ Jx (pre ++ [x]) W'))
  (W:World) (hBa:W.cell? ⟨Ba,0,none⟩ = some va) (hBb:W.cell? ⟨Bb,0,none⟩ = some vb) (hA:Sl n₀ W va a) (hB:Sl n₀ W vb b) (h0:J [] W) :
  CallsIn F n Tryz.prog 194 #[.func (.yield l) #[] #[],.pointer (some ⟨Ba,0,none⟩),.pointer (some ⟨Bb,0,none⟩)] W fun e W' => (∃ v,e = .returned v) ∧
   ((∃ ys,ys = mergeM 12 a b ∧ J ys W') ∨ (∃ pre,pre <+: mergeM 12 a b ∧ Jx pre W')):=by
 refine callsIn_of_wp Tryz.func194 rfl h6 ?_ hro
 simp only [Tryz.ntmps194,List.size_toArray,List.length_cons,List.length_nil,Nat.reduceAdd,Nat.reduceSub,Array.replicate_succ,Array.replicate_zero,List.push_toArray,List.append_toArray,List.nil_append,List.cons_append]
 obtain ⟨pa,ca,rfl⟩:=hA.slice
 obtain ⟨pb,cb,rfl⟩:=hB.slice
 have hA':Sl n₀ W.drew (.slice pa a.length ca) a:=hA
 have hB':Sl n₀ W.drew (.slice pb b.length cb) b:=hB
 have h0':J [] W.drew:=hJd h0
 gi_wp2
 gi_region
 all_goals gi_wp2
 all_goals (
  gi_loopw [4,5] (fun u v wr => ∃ (pre xs ys:List Int) (f:Nat),Sl n₀ wr u xs ∧ Sl n₀ wr v ys ∧ xs.length + ys.length ≤ f ∧ (∀ x ∈ xs,x ≤ 63) ∧ (∀ y ∈ ys,y ≤ 63) ∧ mergeM 12 a b = pre ++ mergeM f xs ys ∧ pre.length + f = 12 ∧ J pre wr) (fun u v _ => lenV u + lenV v)
  case atStart => exact ⟨[],a,b,12,hA',hB',by omega,ha,hb,rfl,rfl,h0'⟩
  case round =>
   obtain ⟨pre,xs,ys,f,hu,hv,hfl,hxs,hys,hm,hf,hJs⟩:=hrel
   cases xs with
   | nil =>
    obtain ⟨p1,c1,rfl⟩:=hu.slice
    cases ys with
    | nil =>
    obtain ⟨p2,c2,rfl⟩:=hv.slice
    gi_wp2
    go_end0
    exact ⟨⟨_,rfl⟩,.inl ⟨_,rfl,by rw [hm,ziE,List.append_nil]; exact hJs⟩⟩
    | cons y r =>
    obtain ⟨b2,o2,c2,rfl,hc2,hb2,hy0,hv'⟩:=hv.cons
    have hy63:=hys y (List.mem_cons_self ..)
    have hxs':=hxs
    have hys':=fun z hz => hys z (List.mem_cons_of_mem y hz)
    obtain ⟨f,rfl⟩:∃ g,f = g + 1:=⟨f - 1,by simp only [List.length_nil,List.length_cons] at hfl; omega⟩
    have he:mergeM (f + 1) [] (y :: r) = y :: mergeM f [] r:=by
     show cond _ _ _ = _
     simp [headM,cutM]
    obtain ⟨fn,tmps,assign,body,hy,hRd⟩:=hY pre y wr hJs (by omega)
    gi_wp2
    all_goals (
     refine hRd.mono ?_
     rintro e W3 (⟨rfl,hJ3,hk3⟩ | ⟨rfl,hJx3⟩)
     ·gi_wp2
      go_roundw
      case rel => exact ⟨pre ++ [y],[],r,f,by first | exact hu.below hk3,by first | exact hv'.below hk3 | exact Sl.zero (by omega),by simp only [List.length_nil,List.length_cons] at hfl ⊢; omega,hxs',hys',by rw [hm,he]; simp,by simp; omega,hJ3⟩
      case measure => simp [lenV] <;> omega
     ·gi_wp2
      refine bodyPost_ret (results_none rfl _ _ _) rfl ?_
      exact ⟨⟨_,rfl⟩,.inr ⟨pre ++ [y],⟨mergeM f [] r,by rw [hm,he]; simp⟩,hJx3⟩⟩)
   | cons x r =>
    obtain ⟨b1,o1,c1,rfl,hc1,hb1,hx0,hu'⟩:=hu.cons
    have hx63:=hxs x (List.mem_cons_self ..)
    have hxc:=fun z hz => hxs z (List.mem_cons_of_mem x hz)
    cases ys with
    | nil =>
    obtain ⟨p2,c2,rfl⟩:=hv.slice
    have hxs':=hxc
    have hys':=hys
    obtain ⟨f,rfl⟩:∃ g,f = g + 1:=⟨f - 1,by simp only [List.length_nil,List.length_cons] at hfl; omega⟩
    have he:mergeM (f + 1) (x :: r) [] = x :: mergeM f r []:=by
     show cond _ _ _ = _
     simp [headM,cutM]
    obtain ⟨fn,tmps,assign,body,hy,hRd⟩:=hY pre x wr hJs (by omega)
    gi_wp2
    all_goals (
     refine hRd.mono ?_
     rintro e W3 (⟨rfl,hJ3,hk3⟩ | ⟨rfl,hJx3⟩)
     ·gi_wp2
      go_roundw
      case rel => exact ⟨pre ++ [x],r,[],f,by first | exact hu'.below hk3 | exact Sl.zero (by omega),by first | exact hv.below hk3,by simp only [List.length_nil,List.length_cons] at hfl ⊢; omega,hxs',hys',by rw [hm,he]; simp,by simp; omega,hJ3⟩
      case measure => simp [lenV] <;> omega
     ·gi_wp2
      refine bodyPost_ret (results_none rfl _ _ _) rfl ?_
      exact ⟨⟨_,rfl⟩,.inr ⟨pre ++ [x],⟨mergeM f r [],by rw [hm,he]; simp⟩,hJx3⟩⟩)
    | cons y s =>
    obtain ⟨b2,o2,c2,rfl,hc2,hb2,hy0,hv'⟩:=hv.cons
    have hy63:=hys y (List.mem_cons_self ..)
    have hyc:=fun z hz => hys z (List.mem_cons_of_mem y hz)
    obtain ⟨f,rfl⟩:∃ g,f = g + 1:=⟨f - 1,by simp only [List.length_nil,List.length_cons] at hfl; omega⟩
    rcases Int.lt_trichotomy x y with hlt | heq | hgt
    ·have hxs':=hxc
     have hys':=hys
     have n1:¬ y < x:=by omega
     have n2:(y == x) = false:=by simpa using (by omega:y ≠ x)
     have he:mergeM (f + 1) (x :: r) (y :: s) = x :: mergeM f r (y :: s):=by
      show cond _ _ _ = _
      simp [headM,cutM,n1,n2]
     obtain ⟨fn,tmps,assign,body,hy,hRd⟩:=hY pre x wr hJs (by omega)
     gi_wp2
     all_goals (
      refine hRd.mono ?_
      rintro e W3 (⟨rfl,hJ3,hk3⟩ | ⟨rfl,hJx3⟩)
      ·gi_wp2
       go_roundw
       case rel => exact ⟨pre ++ [x],r,(y :: s),f,by first | exact hu'.below hk3 | exact Sl.zero (by omega),by first | exact hv.below hk3,by simp only [List.length_nil,List.length_cons] at hfl ⊢; omega,hxs',hys',by rw [hm,he]; simp,by simp; omega,hJ3⟩
       case measure => simp [lenV] <;> omega
      ·gi_wp2
       refine bodyPost_ret (results_none rfl _ _ _) rfl ?_
       exact ⟨⟨_,rfl⟩,.inr ⟨pre ++ [x],⟨mergeM f r (y :: s),by rw [hm,he]; simp⟩,hJx3⟩⟩)
    ·subst heq
     have hxs':=hxc
     have hys':=hyc
     have he:mergeM (f + 1) (x :: r) (x :: s) = x :: mergeM f r s:=by
      show cond _ _ _ = _
      simp [headM,cutM]
     obtain ⟨fn,tmps,assign,body,hy,hRd⟩:=hY pre x wr hJs (by omega)
     gi_wp2
     all_goals (
      refine hRd.mono ?_
      rintro e W3 (⟨rfl,hJ3,hk3⟩ | ⟨rfl,hJx3⟩)
      ·gi_wp2
       go_roundw
       case rel => exact ⟨pre ++ [x],r,s,f,by first | exact hu'.below hk3 | exact Sl.zero (by omega),by first | exact hv'.below hk3 | exact Sl.zero (by omega),by simp only [List.length_nil,List.length_cons] at hfl ⊢; omega,hxs',hys',by rw [hm,he]; simp,by simp; omega,hJ3⟩
       case measure => simp [lenV] <;> omega
      ·gi_wp2
       refine bodyPost_ret (results_none rfl _ _ _) rfl ?_
       exact ⟨⟨_,rfl⟩,.inr ⟨pre ++ [x],⟨mergeM f r s,by rw [hm,he]; simp⟩,hJx3⟩⟩)
    ·have hxs':=hxs
     have hys':=hyc
     have n1:y < x:=hgt
     have n2:(x == y) = false:=by simpa using (by omega:x ≠ y)
     have he:mergeM (f + 1) (x :: r) (y :: s) = y :: mergeM f (x :: r) s:=by
      show cond _ _ _ = _
      simp [headM,cutM,n1,n2]
     obtain ⟨fn,tmps,assign,body,hy,hRd⟩:=hY pre y wr hJs (by omega)
     gi_wp2
     all_goals (
      refine hRd.mono ?_
      rintro e W3 (⟨rfl,hJ3,hk3⟩ | ⟨rfl,hJx3⟩)
      ·gi_wp2
       go_roundw
       case rel => exact ⟨pre ++ [y],(x :: r),s,f,by first | exact hu.below hk3,by first | exact hv'.below hk3 | exact Sl.zero (by omega),by simp only [List.length_nil,List.length_cons] at hfl ⊢; omega,hxs',hys',by rw [hm,he]; simp,by simp; omega,hJ3⟩
       case measure => simp [lenV] <;> omega
      ·gi_wp2
       refine bodyPost_ret (results_none rfl _ _ _) rfl ?_
       exact ⟨⟨_,rfl⟩,.inr ⟨pre ++ [y],⟨mergeM f (x :: r) s,by rw [hm,he]; simp⟩,hJx3⟩⟩))
end Few
end Go.Proofs.YtljojacnjjgceaaGreat.Den
namespace Go.Proofs.YtljojacnjjgceaaGreat.Den
open Go Go.Proofs Go.RowKit Go.Shelf
attribute [local go_sem] Oper.semAt_some
def leastL (a b:List Int):List Int:=(mergeM 12 a b).take 6
def leastOK (a b:List Int):Bool:=decide (a.length ≤ 6) && (decide (b.length ≤ 6) && (a.all (fun x => decide (x ≤ 63)) && b.all fun x => decide (x ≤ 63)))
namespace Few
theorem info3:(Tryz.prog.info? 3).map (fun i => (i.zero,i.size,i.bytes)) = some (some (.int .i64 0),1,8):=by kernel_rfl
theorem Sl.form {n₀:Nat} {W:World} {v:Value} {xs:List Int} (h:Sl n₀ W v xs):∃ p c,v = .slice p xs.length c:=h.slice
theorem stops (F:Fence) (n:Nat) (h6:F.fn 194) (hro:F.round = none) (hn:1 ≤ n) (Ba Bb n₀:Nat) (va vb:Value) (a b:List Int) (ha:∀ x ∈ a,x ≤ 63) (hb:∀ x ∈ b,x ≤ 63) (hla:a.length ≤ 6) (hlb:b.length ≤ 6) (w:World) (hBa:Ba < w.heap.size) (hBb:Bb < w.heap.size) (hn₀:n₀ ≤ w.heap.size)
  (hca:w.cell? ⟨Ba,0,none⟩ = some va) (hcb:w.cell? ⟨Bb,0,none⟩ = some vb) (hA:Sl n₀ w va a) (hB:Sl n₀ w vb b) :
  SeqStopsK F n Tryz.prog 194 #[.pointer (some ⟨Ba,0,none⟩),.pointer (some ⟨Bb,0,none⟩)] (fun x:Int => #[Value.int .i64 x]) (Below n₀) (fun ys => ys = mergeM 12 a b) (fun pre => pre <+: mergeM 12 a b) 12 w:=fun l J Jx W hW hJ _ hY h0 =>
 iter1_in F n h6 hro hn l Ba Bb n₀ va vb a b ha hb hla hlb J Jx (fun {s W1} h => hJ s W1 W1.drew none h ⟨rfl,rfl,rfl,Nat.le_refl _,fun _ _ _ => rfl⟩ (fun r e => by cases e)) hY W
  ((hW.cell (p:=⟨Ba,0,none⟩) hBa).trans hca) ((hW.cell (p:=⟨Bb,0,none⟩) hBb).trans hcb) (hA.below (hW.mono hn₀)) (hB.below (hW.mono hn₀)) h0
theorem zwt {w:World} {base base' size n:Nat} {e:TypeId} {v:Value} {xs:List Value} (h:w.ownsRow base e size v n xs) (hb:base' ≤ base):w.ownsRow base' e size v n xs:=by
 refine ⟨h.1,?_⟩
 rcases h.2 with h | ⟨g,cap,cur,h1,h2,h3⟩
 ·exact .inl h
 ·exact .inr ⟨g,cap,cur,h1,Nat.le_trans hb h2,h3⟩
set_option maxRecDepth 100000 in
set_option maxHeartbeats 4000000 in
theorem least_in (F:Fence) (n:Nat) (h3:F.fn 155) (h4:F.fn 181) (h5:F.fn 194) (hro:F.round = none) (hn:3 ≤ n) (va vb:Value) (a b:List Int) (ha:∀ x ∈ a,x ≤ 63) (hb:∀ x ∈ b,x ≤ 63) (hla:a.length ≤ 6) (hlb:b.length ≤ 6) (w:World)
  (hA:Sl w.heap.size w va a) (hB:Sl w.heap.size w vb b) :
  CallsIn F n Tryz.prog 155 #[va,vb] w fun e W' => ∃ v,e = .returned (.agg #[v]) ∧ W'.ownsRow w.heap.size 3 1 v ((mergeM 12 a b).take 6).length (((mergeM 12 a b).take 6).map (Value.int .i64)) ∧ Below w.heap.size w W':=by
 have h1:1 ≤ n:=by omega
 obtain ⟨i0,hi,hz0,hz1,hz2⟩:=info_parts info3
 obtain ⟨pa,ca,rfl⟩:=hA.slice
 obtain ⟨pb,cb,rfl⟩:=hB.slice
 refine callsIn_of_wp_marks Tryz.func155 rfl h3 ?_ hro
 simp only [Tryz.ntmps155,List.size_toArray,List.length_cons,List.length_nil,Nat.reduceAdd,Nat.reduceSub,Array.replicate_succ,Array.replicate_zero,List.push_toArray,List.append_toArray,List.nil_append,List.cons_append]
 have hmk:(Instr.makeSlice 23 (.int .i64 0) (.int .i64 6)).run Tryz.prog (w.alloc (.cells #[.slice none 0 0] 38)) = .ok (.slice (some ⟨w.heap.size + 1,0,none⟩) 0 6) ((w.alloc (.cells #[.slice none 0 0] 38)).alloc (.cells (madeCells #[.int .i64 0] 6) 3)):=by
  have:=run_makeSlice (P:=Tryz.prog) (w:=w.alloc (.cells #[.slice none 0 0] 38)) 23 3 i0 (.int .i64 0) Tryz.underlying23 hi hz0 .i64 .i64 0 6 (by omega) (by omega) (by rw [hz1]; decide) (by rw [hz2]; decide) (by omega)
  rw [World.size_alloc,hz1] at this
  exact this
 gi_wp2_with (gi_at_call 181; refine (marks_in F (n - 1) h4 hro _ _ _ _ _ _ _).mono ?_; rintro e w' ⟨rfl,rfl⟩)
 obtain ⟨W5,hW5⟩:∃ W5,(((((w.alloc (.cells #[.slice none 0 0] 38)).alloc (.cells (madeCells #[.int .i64 0] 6) 3)).alloc (.cells #[.slice (some ⟨w.heap.size + 1,0,none⟩) 0 6] 23)).alloc (.cells #[.slice pa a.length ca] 23)).alloc (.cells #[.slice pb b.length cb] 23)) = W5:=⟨_,rfl⟩
 have sz:W5.heap.size = w.heap.size + 5:=by rw [← hW5]; simp
 have k1:Boxed W5 w.heap.size 38 (.slice none 0 0):=by rw [← hW5]; exact ((((Boxed.new w 38 _).alloc _).alloc _).alloc _).alloc _
 have k2:W5.ownsRow (w.heap.size + 1) 3 1 (.slice (some ⟨w.heap.size + 1,0,none⟩) 0 6) 0 []:=by
  have h:=World.ownsRow_made (base:=w.heap.size + 1) (size:=1) (e:=3) (w.alloc (.cells #[.slice none 0 0] 38)) (madeCells #[.int .i64 0] 6) 6 (by simp) (by decide) (size_madeCells _ _)
  rw [World.size_alloc] at h
  rw [← hW5]
  exact ((h.alloc _).alloc _).alloc _
 have k3:Boxed W5 (w.heap.size + 2) 23 (.slice (some ⟨w.heap.size + 1,0,none⟩) 0 6):=by
  have h:=Boxed.new ((w.alloc (.cells #[.slice none 0 0] 38)).alloc (.cells (madeCells #[.int .i64 0] 6) 3)) 23 (.slice (some ⟨w.heap.size + 1,0,none⟩) 0 6)
  simp only [World.size_alloc] at h
  rw [← hW5]
  exact (h.alloc _).alloc _
 have k4:Boxed W5 (w.heap.size + 3) 23 (.slice pa a.length ca):=by
  have h:=Boxed.new (((w.alloc (.cells #[.slice none 0 0] 38)).alloc (.cells (madeCells #[.int .i64 0] 6) 3)).alloc (.cells #[.slice (some ⟨w.heap.size + 1,0,none⟩) 0 6] 23)) 23 (.slice pa a.length ca)
  simp only [World.size_alloc] at h
  rw [← hW5]
  exact h.alloc _
 have k5:Boxed W5 (w.heap.size + 4) 23 (.slice pb b.length cb):=by
  have h:=Boxed.new ((((w.alloc (.cells #[.slice none 0 0] 38)).alloc (.cells (madeCells #[.int .i64 0] 6) 3)).alloc (.cells #[.slice (some ⟨w.heap.size + 1,0,none⟩) 0 6] 23)).alloc (.cells #[.slice pa a.length ca] 23)) 23 (.slice pb b.length cb)
  simp only [World.size_alloc] at h
  rw [← hW5]
  exact h
 have hB0:Below w.heap.size w W5:=by
  rw [← hW5]
  exact (((((Below.refl _ w).alloc (Nat.le_refl _) _).alloc (by simp) _).alloc (by simp; omega) _).alloc (by simp; omega) _).alloc (by simp; omega) _
 rw [hW5]
 refine wpIn_rangeFunc_ownG hro h1 (gf:=194) (lb:=#[.pointer (some ⟨w.heap.size + 3,0,none⟩),.pointer (some ⟨w.heap.size + 4,0,none⟩)]) rfl h5 (enters_of Tryz.func194 (by kernel_rfl) rfl)
  (stops F (n - 1) h5 hro (by omega) (w.heap.size + 3) (w.heap.size + 4) w.heap.size _ _ a b ha hb hla hlb W5 (by omega) (by omega) (by omega) k4.cell k5.cell (hA.below hB0) (hB.below hB0)) belowK_t (belowK_b (by omega)) (Below.refl _ _) (fun _ => rfl)
  (fun pre W => (∃ v,Boxed W (w.heap.size + 2) 23 v ∧ W.ownsRow (w.heap.size + 1) 3 1 v (pre.take 6).length ((pre.take 6).map (Value.int .i64)) ∧ pre.length ≤ 6) ∧ Boxed W w.heap.size 38 (.slice none 0 0) ∧ Below w.heap.size w W)
  (fun c pre W => ((∃ v,Boxed W (w.heap.size + 2) 23 v ∧ W.ownsRow (w.heap.size + 1) 3 1 v (pre.take 6).length ((pre.take 6).map (Value.int .i64)) ∧ (c = Code.exit 0 ∧ 6 < pre.length)) ∧ Boxed W w.heap.size 38 (.slice none 0 0) ∧ Below w.heap.size w W))
  (OwnFrom.and (Own.from (holdsRow_own (w.heap.size + 1) (w.heap.size + 2) 23 3 1 (fun pre:List Int => (pre.take 6).length) (fun pre => (pre.take 6).map (Value.int .i64)) (fun pre v => pre.length ≤ 6)) _) (OwnFrom.and (Own.from (boxed_own _ _ _) _) (ownFrom_below (Nat.le_refl _) (by omega))))
  (fun c => OwnFrom.and (Own.from (holdsRow_own (w.heap.size + 1) (w.heap.size + 2) 23 3 1 (fun pre:List Int => (pre.take 6).length) (fun pre => (pre.take 6).map (Value.int .i64)) (fun pre v => c = Code.exit 0 ∧ 6 < pre.length)) _) (OwnFrom.and (Own.from (boxed_own _ _ _) _) (ownFrom_below (Nat.le_refl _) (by omega))))
  ⟨⟨_,k3,k2,by simp⟩,k1,hB0⟩
  (fun x => { tmps:=#[.slice pa a.length ca,.slice pb b.length cb,undef,undef,.pointer (some ⟨w.heap.size,0,none⟩),.pointer (some ⟨w.heap.size + 2,0,none⟩),.int .i64 x,.slice (some ⟨w.heap.size + 1,0,none⟩) 0 6,.slice pa a.length ca,.slice pb b.length cb,
   .func (.func 194) #[] #[.pointer (some ⟨w.heap.size + 3,0,none⟩),.pointer (some ⟨w.heap.size + 4,0,none⟩)],.int .i64 x,undef,undef,undef,undef,undef,undef,undef,undef,undef],defers:=[] }) ?assign ?body ?done ?stop
 case assign =>
  intro l x W K hK
  gi_wp2
  exact hK
 case body =>
  rintro l pre x W ⟨⟨v,hv,hrow,hp6⟩,hb29,hB⟩ hlt
  have htk:pre.take 6 = pre:=List.take_of_length_le hp6
  rw [htk] at hrow
  obtain ⟨q,cq,rfl⟩:∃ q cq,v = .slice q pre.length cq:=by
   rcases hrow.2 with ⟨rfl,h0⟩ | ⟨g,cap,cur,rfl,_⟩
   ·exact ⟨none,0,by rw [h0]⟩
   ·exact ⟨_,_,rfl⟩
  have hc:=hv.cell
  gi_wp2_with (gi_at_builtin; refine wpListIn_append_own _ rfl _ _ 23 rfl (w.heap.size + 1) 3 i0 (.int .i64 0) 1 8 Tryz.underlying23 hi hz0 hz1 hz2 rfl (by decide) _ _ _ rfl (hrow.alloc _) ⟨W.heap.size,0,none⟩ 1 1 [.int .i64 x] rfl rfl (cell_one_new _ _ _) (by simp [Value.oneCell']) (by simp [maxLen]; omega) (by omega) (by have:=hB.size; have:=hv.lt; simp; omega) ?_; intro v' w1 hown' hgrow _; obtain ⟨g',cap',rfl⟩:=ownsRow_succ hown'; obtain ⟨hv1,hv2,hr2,hk2,hb2⟩:=hv.appended (by decide) hrow (by have:=hv.lt; omega) (by omega) hown' hgrow; have hc1:=hv1.cell; have hf1:=hv1.frozen)
  ·have h6:pre.length = 6:=by first | omega | (simp only [beq_iff_eq] at *; omega)
   have e6:(pre ++ [x]).take 6 = pre:=by rw [← h6,List.take_left]
   exact ⟨KeepsFrom.refl _ _,⟨_,hv,by rw [e6]; exact hrow,rfl,by simp; omega⟩,hb29,hB⟩
  ·have h6:pre.length < 6:=by first | omega | (simp only [beq_eq_false_iff_ne,ne_eq] at *; omega)
   have e6:(pre ++ [x]).take 6 = pre ++ [x]:=List.take_of_length_le (by simp; omega)
   exact ⟨hk2.from _,hb2.mono (by omega),⟨_,hv2,by rw [e6]; simpa using hr2,by simp; omega⟩,(hb2.block _ (by omega)).trans hb29,hB.trans (hb2.mono (by omega))⟩
 case done =>
  rintro D ys W hD rfl ⟨⟨v,hv,hrow,hp6⟩,hb29,hB⟩ hK
  obtain ⟨q,m,cq,rfl⟩:∃ q m cq,v = .slice q m cq:=by
   rcases hrow.2 with ⟨rfl,h0⟩ | ⟨g,cap,cur,rfl,_⟩ <;> exact ⟨_,_,_,rfl⟩
  have hc:=hv.cell
  have hc29:=hb29.cell
  have hf29:=hb29.frozen
  gi_wp2
  have hK':=(KeepsOthers.setCell W ⟨w.heap.size,0,none⟩ (.slice q m cq)).same D _ hK rfl
  refine ⟨by simp,.inl ⟨_,_,rfl,run_takeDeferred hK',?_⟩⟩
  have hc5:=cell_kept (World.cell?_setCell_same' W ⟨w.heap.size,0,none⟩ (.slice q m cq) (by rw [hc29]; rfl)) (grownBy_putObj' _ D (.deferred none)) (fun r e => by cases e; exact ⟨_,hK',rfl⟩)
  refine ⟨.agg #[.slice q m cq],?_,_,rfl,?_,(hB.setCell (p:=⟨w.heap.size,0,none⟩) (Nat.le_refl _) _).trans (belowK_b (w:=w) (Nat.le_refl _) _ D _ _ (by omega) hK' rfl rfl)⟩
  ·simp [results,Tryz.f155,go_sem,hc5]
  ·exact zwt (ownsRow_putObj (ownsRow_setCell_below hrow (by show w.heap.size < _; omega) _) _ hK' rfl) (by omega)
 case stop =>
  rintro D c pre W hD hpre ⟨⟨v,hv,hrow,rfl,hp6⟩,hb29,hB⟩ hK
  obtain ⟨q,m,cq,rfl⟩:∃ q m cq,v = .slice q m cq:=by
   rcases hrow.2 with ⟨rfl,h0⟩ | ⟨g,cap,cur,rfl,_⟩ <;> exact ⟨_,_,_,rfl⟩
  have hc:=hv.cell
  have hc29:=hb29.cell
  have hf29:=hb29.frozen
  obtain ⟨t,ht⟩:=hpre
  have e6:pre.take 6 = (mergeM 12 a b).take 6:=by rw [← ht,List.take_append_of_le_length (by omega)]
  rw [e6] at hrow
  gi_wp2
  have hK':=(KeepsOthers.setCell W ⟨w.heap.size,0,none⟩ (.slice q m cq)).same D _ hK rfl
  refine ⟨by simp,.inl ⟨_,_,rfl,run_takeDeferred hK',?_⟩⟩
  have hc5:=cell_kept (World.cell?_setCell_same' W ⟨w.heap.size,0,none⟩ (.slice q m cq) (by rw [hc29]; rfl)) (grownBy_putObj' _ D (.deferred none)) (fun r e => by cases e; exact ⟨_,hK',rfl⟩)
  refine ⟨.agg #[.slice q m cq],?_,_,rfl,?_,(hB.setCell (p:=⟨w.heap.size,0,none⟩) (Nat.le_refl _) _).trans (belowK_b (w:=w) (Nat.le_refl _) _ D _ _ (by omega) hK' rfl rfl)⟩
  ·simp [results,Tryz.f155,go_sem,hc5]
  ·exact zwt (ownsRow_putObj (ownsRow_setCell_below hrow (by show w.heap.size < _; omega) _) _ hK' rfl) (by omega)
theorem Sl.of {w:World} {B:Nat → Prop} {n₀:Nat} (hB:∀ b,B b → b < n₀) {xs:List Int} {u:Value} (h:CRel w B (Kd.list (.int .i64)) xs [u]):Sl n₀ w u xs:=by
 simp only [CRel] at h
 obtain ⟨a,c,e,hc,hx⟩:=h
 simp only [List.cons.injEq,and_true] at e
 refine ⟨a,c,e,hc,?_⟩
 cases xs with
 | nil => exact .inl rfl
 | cons x r =>
  obtain ⟨ad,rfl,hb,hg⟩:=hx (by simp)
  have cellAt:∀ i,i < (x :: r).length → w.cell? (ad.add i) = some (.int .i64 ((x :: r).getD i 0)):=fun i hi => by
   obtain ⟨es,h1,h2⟩:=hg i ((x :: r)[i]) (List.getElem?_eq_getElem hi)
   subst h1
   have:=h2 0 (.int .i64 ((x :: r)[i])) rfl
   simp only [Kd.sz,Nat.mul_one,Nat.add_zero] at this
   rw [this,List.getD_eq_getElem?_getD,List.getElem?_eq_getElem hi]; rfl
  have c0:=cellAt 0 (by simp)
  have sp:ad.spot = none:=by
   cases hs:ad.spot with
   | none => rfl
   | some k =>
    exfalso
    have:w.cell? (ad.add 0) = none:=by
     simp only [Addr.add,if_true,World.cell?,hs,Option.isSome_some]
     split <;> rfl
    rw [this] at c0; cases c0
  obtain ⟨b,o,t⟩:=ad
  obtain rfl:t = none:=sp
  refine .inr ⟨b,o,rfl,hB b hb,fun j hj => ?_⟩
  have:=cellAt j hj
  unfold Addr.add at this
  split at this
  ·rename_i h0; subst h0; exact this
  ·exact this
end Few
abbrev zAb:Sx:=.grp (.dat (Kd.list I6) .nil) (.grp (.dat (Kd.list I6) .nil) .nil)
abbrev zAc:Sx:=.agg (.own 0 I6 .nil) .nil
abbrev zAd:LF:=.pure zAb zAc true
def zno (Z:Nat) (x:((List Int) × Unit) × (((List Int) × Unit) × Unit)):Option (((List Int) × Unit) × Unit):=cond (leastOK x.1.1 x.2.1.1) (some ((leastL x.1.1 x.2.1.1,()),())) none
abbrev zrP (Z:Nat):LE:=⟨zAd,zno Z⟩
theorem zwu {w:World} {B:Nat → Prop}:∀ (xs:List Int),SeqL (TreeC w B I6 0) xs (xs.map (Value.int .i64)) []
 | [] => ⟨rfl,rfl⟩
 | x :: xs => ⟨[.int .i64 x],xs.map (Value.int .i64),[],[],rfl,rfl,⟨rfl,rfl⟩,zwu xs⟩
theorem zAe (Z:Nat):FnSpec Tryz.prog 155 (zrP Z):=by
 intro w res ua ud pa xa xd y hres hwa _ _ hwd hfn
 obtain ⟨⟨a,⟨⟩⟩,⟨b,⟨⟩⟩,⟨⟩⟩:=xd
 obtain ⟨rfl,rfl⟩:=hwa
 obtain ⟨_,_,_,_,rfl,_,⟨v0,_,rfl,h0,rfl,_⟩,_,_,_,_,rfl,_,⟨v1,_,rfl,h1,rfl,_⟩,rfl,_⟩:=hwd
 have hfn':cond (leastOK a b) (some ((leastL a b,()),())) none = some y:=hfn
 cases hok:leastOK a b with
 | false => rw [hok] at hfn'; cases hfn'
 | true =>
  rw [hok,cond_true] at hfn'
  obtain rfl:((leastL a b,()),()) = y:=Option.some.inj hfn'
  unfold leastOK at hok
  simp only [Bool.and_eq_true,decide_eq_true_eq,List.all_eq_true] at hok
  obtain ⟨l1,l2,g1,g2⟩:=hok
  have hA:Few.Sl w.heap.size w v0 a:=Few.Sl.of (fun b hb => hb.1) h0
  have hB:Few.Sl w.heap.size w v1 b:=Few.Sl.of (fun b hb => hb.1) h1
  refine (callsIn_wide.1 (Few.least_in Fence.wide 3 trivial trivial trivial rfl (Nat.le_refl _) v0 v1 a b g1 g2 l1 l2 w hA hB)).mono ?_
  rintro e w' ⟨v,rfl,hrow,hbel⟩
  have hk:Kept w w' (flatF []):=⟨hbel.os,hbel.tape,hbel.output,hbel.size,fun b hb _ => hbel.block b hb,fun b C t fr h => ⟨C,(hbel.block b (Array.getElem?_eq_some_iff.1 h).1).trans h,rfl⟩⟩
  rcases hrow.2 with ⟨rfl,hz⟩ | ⟨g,cap,cur,rfl,hg,hheap,hnc,hcm,hcs,hxs⟩
  ·refine ⟨#[.agg #[.slice none 0 0]],[],[],rfl,hk,List.nodup_nil,fun b hb => (by cases hb),⟨rfl,rfl⟩,trivial,?_⟩
   have he:leastL a b = []:=List.length_eq_zero_iff.1 hz
   exact ⟨#[.slice none 0 0],[],[],[],rfl,rfl,⟨_,[],[],[],rfl,rfl,.inl ⟨none,rfl,he,rfl⟩,rfl,rfl⟩,rfl,rfl⟩
  ·have hgl:g < w'.heap.size:=(Array.getElem?_eq_some_iff.1 hheap).1
   refine ⟨#[.agg #[.slice (some ⟨g,0,none⟩) (leastL a b).length cap]],[],[(g,[])],rfl,hk,by simp [flatF],fun b hb => ?_,⟨rfl,rfl⟩,trivial,?_⟩
   ·simp [flatF] at hb
    subst hb
    exact ⟨hgl,.inr hg⟩
   ·refine ⟨#[.slice (some ⟨g,0,none⟩) (leastL a b).length cap],[],[(g,[])],[],rfl,rfl,⟨_,[],[(g,[])],[],rfl,rfl,.inr ⟨g,0,cap,cur,3,(leastL a b).map (Value.int .i64),[],rfl,rfl,hnc,hheap,by rw [hcs]; simp [Kd.sz],by simp [Kd.sz],fun i v hv => ?_,zwu _⟩,rfl,rfl⟩,rfl,rfl⟩
    have hi:i < (leastL a b).length:=by simpa using (List.getElem?_eq_some_iff.1 hv).1
    have h2:(cur.toList.take ((leastL a b).length * 1))[i]? = ((leastL a b).map (Value.int .i64))[i]?:=by rw [show cur.toList.take ((leastL a b).length * 1) = (leastL a b).map (Value.int .i64) from hxs]
    rw [List.getElem?_take_of_lt (by omega),hv,Array.getElem?_toList] at h2
    simpa using h2
theorem zAf (Z:Nat):EntryOK Tryz.prog 155 (zrP Z).te:=EntryOK.le (by kernel_rfl) (zAe Z) ⟨Tryz.f155,by kernel_rfl,of_decide_eq_false (by kernel_rfl),by kernel_rfl⟩
end Go.Proofs.YtljojacnjjgceaaGreat.Den
namespace Go.Proofs.YtljojacnjjgceaaGreat.Den
open Go Go.RowKit
abbrev zb9:=Option ((Int × Unit) × ((Bool × Unit) × Unit))
def zfW (Z:Nat):Tab:=Tab.of [] []
def zrQ:List Norm:=[⟨[12,11,10,4],[],[],[]⟩]
noncomputable def zjA:C:=irOf Tryz.prog Tryz.f99 [] zrQ []
def zfX:List (Nat × Option (Nat × Bool)):=[(2,none),(3,none)]
abbrev zAg:Sx:=.grp (.dat (Kd.list I6) .nil) .nil
abbrev zAh:Sx:=.grp (.dat I6 .nil) (.grp (.dat Kd.bool .nil) .nil)
abbrev zbe:LF:=.pure zAg zAh true
abbrev zdl:=(Int) × (Int) × (List Int) × (Int)
def zrR (v:zdl):Env × Heap:=([(12,SV.int .i64 v.1),(11,SV.int .i64 v.2.1),(10,SV.es I6 v.2.2.1),(4,SV.int .i64 v.2.2.2)],[])
def zfY (Z:Nat) (g0:zdl → zb9) (v:zdl):zb9 :=
 cond (decide (v.1 < v.2.1))
 (tst (decide (0 ≤ v.1)) <|
 tst (decide (v.1 < (zz (List.length v.2.2.1)))) <|
 cond (decide (List.getD v.2.2.1 (Int.toNat v.1) 0 < (0:Int)))
 (some ((((0:Int),()),(false,()),())))
 (cond (decide (List.getD v.2.2.1 (Int.toNat v.1) 0 > (2000:Int)))
 (some ((((0:Int),()),(false,()),())))
 (g0 (w64 (v.1 + (1:Int)),v.2.1,v.2.2.1,w64 (v.2.2.2 + List.getD v.2.2.1 (Int.toNat v.1) 0)))))
 (some (((v.2.2.2,()),(decide (v.2.2.2 ≤ (2000:Int)),()),())))
def zjB (Z:Nat) (g0:zdl → zb9):zdl → zb9:=zfY Z g0
theorem zAi (Z:Nat) (G):zjA.lp (zfW Z) 0 Z G (endX zfX zbe) 0 zrR = iter (zjB Z) Z:=C.lp_iter fun g v => by kernel_rfl
def zjC (Z:Nat) (X0:zdl → zb9) (x0:List Int):zb9 :=
 cond ((zz (List.length x0)) != (8:Int))
 (some ((((0:Int),()),(false,()),())))
 (X0 ((0:Int),(zz (List.length x0)),x0,(0:Int)))
def zdm (Z:Nat) (z:(((List Int) × Unit) × Unit)):zb9:=zjC Z (iter (zjB Z) Z) z.1.1
theorem zAj (Z:Nat) (xa:zbe.rt.T) (xd:zbe.D.T):zbe.go (zfW Z) Z zjA zfX xa xd = zdm Z (zbe.xb (xa,xd)) :=
 (show zbe.go (zfW Z) Z zjA zfX xa xd = zjC Z (zjA.lp (zfW Z) 0 Z (fun _ _ _ => none) (endX zfX zbe) 0 zrR) xd.1.1 by kernel_rfl).trans (by rw [zAi]; rfl)
abbrev znp (Z:Nat):LE:=⟨zbe,zdm Z⟩
theorem zrS (Z:Nat):EntryOK Tryz.prog 99 (znp Z).te:=okF (T:=zfW Z) (fn:=Tryz.f99) (le:=znp Z) (frz:=[]) (ann:=zrQ) (cuts:=[]) (rv:=zfX) (TabOK.of (entNil) (methNil)) mixed (by kernel_rfl) (by kernel_rfl) (by kernel_rfl) (fun _ => rfl) (fun _ => rfl) (fun xa xd y h => ⟨Z,(zAj Z xa xd).trans h⟩)
def zfZ (Z:Nat):Tab:=Tab.of [(99,(znp Z).te)] []
def zrT:List Norm:=[⟨[24,23,22,3],[],[],[]⟩]
noncomputable def zjD:C:=irOf Tryz.prog Tryz.f98 [] zrT []
def zf0:List (Nat × Option (Nat × Bool)):=[(2,none)]
abbrev zAk:Sx:=.agg (.dat (Kd.list (Kd.list I6)) .nil) .nil
abbrev zAl:Sx:=.grp (.dat Kd.bool .nil) .nil
abbrev zbf:LF:=.pure zAk zAl true
abbrev zdn:=(Int) × (Int) × (List (List Int)) × (Int)
def zrU (v:zdn):Env × Heap:=([(24,SV.int .i64 v.1),(23,SV.int .i64 v.2.1),(22,SV.es (Kd.list I6) v.2.2.1),(3,SV.int .i64 v.2.2.2)],[])
def zf1 (Z:Nat) (g0:zdn → Option ((Bool × Unit) × Unit)) (v:zdn):Option ((Bool × Unit) × Unit) :=
 cond (decide (v.1 < v.2.1))
 (tst (decide (0 ≤ v.1)) <|
 tst (decide (v.1 < (zz (List.length v.2.2.1)))) <|
 Option.bind (zdm Z ((List.getD v.2.2.1 (Int.toNat v.1) [],()),())) fun y_2 =>
 cond (!y_2.2.1.1)
 (some (((false,()),())))
 (cond (y_2.1.1 != v.2.2.2)
 (some (((false,()),())))
 (g0 (w64 (v.1 + (1:Int)),v.2.1,v.2.2.1,v.2.2.2))))
 (some (((true,()),())))
def zjE (Z:Nat) (g0:zdn → Option ((Bool × Unit) × Unit)):zdn → Option ((Bool × Unit) × Unit):=zf1 Z g0
theorem zAm (Z:Nat) (G):zjD.lp (zfZ Z) 0 Z G (endX zf0 zbf) 0 zrU = iter (zjE Z) Z:=C.lp_iter fun g v => by kernel_rfl
def zjF (Z:Nat) (X0:zdn → Option ((Bool × Unit) × Unit)) (x0:List (List Int)):Option ((Bool × Unit) × Unit) :=
 cond ((zz (List.length x0)) != (3:Int))
 (some (((false,()),())))
 (tst (decide ((0:Int) < (zz (List.length x0)))) <|
 Option.bind (zdm Z ((List.getD x0 (Int.toNat (0:Int)) [],()),())) fun y_2 =>
 X0 ((0:Int),(zz (List.length x0)),x0,y_2.1.1))
def zf2 (Z:Nat) (z:(((List (List Int)) × Unit) × Unit)):Option ((Bool × Unit) × Unit):=zjF Z (iter (zjE Z) Z) z.1.1
theorem zAn (Z:Nat) (xa:zbf.rt.T) (xd:zbf.D.T):zbf.go (zfZ Z) Z zjD zf0 xa xd = zf2 Z (zbf.xb (xa,xd)) :=
 (show zbf.go (zfZ Z) Z zjD zf0 xa xd = zjF Z (zjD.lp (zfZ Z) 0 Z (fun _ _ _ => none) (endX zf0 zbf) 0 zrU) xd.1.1 by kernel_rfl).trans (by rw [zAm]; rfl)
abbrev zrV (Z:Nat):LE:=⟨zbf,zf2 Z⟩
theorem zrW (Z:Nat):EntryOK Tryz.prog 98 (zrV Z).te:=okF (T:=zfZ Z) (fn:=Tryz.f98) (le:=zrV Z) (frz:=[]) (ann:=zrT) (cuts:=[]) (rv:=zf0) (TabOK.of (entCons (zrS Z) entNil) (methNil)) mixed (by kernel_rfl) (by kernel_rfl) (by kernel_rfl) (fun _ => rfl) (fun _ => rfl) (fun xa xd y h => ⟨Z,(zAn Z xa xd).trans h⟩)
def znq (Z:Nat) (x0:List (List Int)):Option ((Int × Unit) × Unit) :=
 Option.bind (zf2 Z ((x0,()),())) fun y_1 =>
 cond (!y_1.1.1)
 (some ((((-1:Int),()),())))
 (tst (decide ((0:Int) < (zz (List.length x0)))) <|
 Option.bind (zdm Z ((List.getD x0 (Int.toNat (0:Int)) [],()),())) fun y_3 =>
 some (((y_3.1.1,()),())))
def znr (Z:Nat) (z:(((List (List Int)) × Unit) × Unit)):Option ((Int × Unit) × Unit):=znq Z z.1.1
abbrev zAo (Z:Nat):LE:=⟨.pure (.agg (.dat (Kd.list (Kd.list I6)) .nil) .nil) (.grp (.dat I6 .nil) .nil) true,znr Z⟩
theorem zAp (Z:Nat):EntryOK Tryz.prog 59 (zAo Z).te:=okS (fn:=Tryz.f59) (frz:=[]) (ann:=[]) (cuts:=[]) (rv:=[(2,none)]) Z (TabOK.of (entCons (zrW Z) (entCons (zrS Z) entNil)) (methNil)) mixed (by kernel_rfl) (by kernel_rfl) (by kernel_rfl) (fun _ => rfl) (fun _ => rfl) (fun _ _ => by kernel_rfl)
def zrX (Z:Nat) (x0:Int):Option ((Bool × Unit) × Unit) :=
 cond (decide (x0 ≥ (0:Int)))
 (some (((decide (x0 < (64:Int)),()),())))
 (some (((false,()),())))
def zS (Z:Nat) (z:((Int × Unit) × Unit)):Option ((Bool × Unit) × Unit):=zrX Z z.1.1
abbrev zrY (Z:Nat):LE:=⟨.pure (.grp (.dat I6 .nil) .nil) (.grp (.dat Kd.bool .nil) .nil) true,zS Z⟩
theorem zca (Z:Nat):EntryOK Tryz.prog 87 (zrY Z).te:=okS (fn:=Tryz.f87) (frz:=[]) (ann:=[]) (cuts:=[]) (rv:=[(2,none)]) Z (TabOK.of (entNil) (methNil)) mixed (by kernel_rfl) (by kernel_rfl) (by kernel_rfl) (fun _ => rfl) (fun _ => rfl) (fun _ _ => by kernel_rfl)
def zAq (Z:Nat) :Option (((List (List Int)) × Unit) × Unit) :=
 let z1_2:=List.set (List.replicate (Int.toNat (3:Int)) []) (Int.toNat (0:Int)) (List.replicate (Int.toNat (8:Int)) 0);
 tst (decide ((1:Int) < (zz (List.length z1_2)))) <|
 tst (decide (Int.toNat (1:Int) < List.length z1_2)) <|
 let z2_2:=List.set z1_2 (Int.toNat (1:Int)) (List.replicate (Int.toNat (8:Int)) 0);
 tst (decide ((2:Int) < (zz (List.length z2_2)))) <|
 tst (decide (Int.toNat (2:Int) < List.length z2_2)) <|
 let z3_2:=List.set z2_2 (Int.toNat (2:Int)) (List.replicate (Int.toNat (8:Int)) 0);
 some (((z3_2,()),()))
def zjG (Z:Nat) (z:Unit):Option (((List (List Int)) × Unit) × Unit):=zAq Z
abbrev zAr (Z:Nat):LE:=⟨.pure .nil (.agg (.dat (Kd.list (Kd.list I6)) .nil) .nil) false,zjG Z⟩
theorem zrZ (Z:Nat):EntryOK Tryz.prog 94 (zAr Z).te:=okS (fn:=Tryz.f94) (frz:=[]) (ann:=[⟨[6,5,1,0],[],[],[]⟩]) (cuts:=[]) (rv:=[(0,some (1,true))]) (Z + 6) (TabOK.of (entNil) (methNil)) mixed (by kernel_rfl) (by kernel_rfl) (by kernel_rfl) (fun _ => rfl) (fun _ => rfl) (fun _ _ => by kernel_rfl)
def zAs (Z:Nat) (x0:Int) (x1:Int):Option ((Int × Unit) × Unit) :=
 some (((w64 (x0 + x1),()),()))
def zns (Z:Nat) (z:((Int × Unit) × ((Int × Unit) × Unit))):Option ((Int × Unit) × Unit):=zAs Z z.1.1 z.2.1.1
abbrev zr0 (Z:Nat):LE:=⟨.pure (.grp (.dat I6 .nil) (.grp (.dat I6 .nil) .nil)) (.grp (.dat I6 .nil) .nil) true,zns Z⟩
theorem zAt (Z:Nat):EntryOK Tryz.prog 180 (zr0 Z).te:=okS (fn:=Tryz.f180) (frz:=[]) (ann:=[]) (cuts:=[]) (rv:=[(4,none)]) Z (TabOK.of (entNil) (methNil)) mixed (by kernel_rfl) (by kernel_rfl) (by kernel_rfl) (fun _ => rfl) (fun _ => rfl) (fun _ _ => by kernel_rfl)
def zf3 (Z:Nat):Tab:=Tab.of [(180,(zr0 Z).te)] []
def zr1:List Norm:=[⟨[14,13,7,2,0,1],[],[],[]⟩]
noncomputable def zjH:C:=irOf Tryz.prog Tryz.f179 [] zr1 []
def zf4:List (Nat × Option (Nat × Bool)):=[(6,none)]
abbrev zAu:Sx:=.dat (Kd.list I6) (.dat (Kd.list I6) (.fnc 180 .nil))
abbrev zAv:Sx:=.own 0 I6 .nil
abbrev zbg:LF:=.pure zAu zAv false
abbrev zdo:=(Int) × (Int) × (List Int) × (List Int) × (List Int)
def zr2 (v:zdo):Env × Heap:=([(14,SV.int .i64 v.1),(13,SV.int .i64 v.2.1),(7,SV.own 0),(2,SV.fn (Fn.func 180) [] []),(0,SV.es I6 v.2.2.1),(1,SV.es I6 v.2.2.2.1)],[Blk.arr I6 v.2.2.2.2 0])
def zf5 (Z:Nat) (g0:zdo → Option ((List Int) × Unit)) (v:zdo):Option ((List Int) × Unit) :=
 cond (decide (v.1 < v.2.1))
 (tst (decide (0 ≤ v.1)) <|
 tst (decide (v.1 < (zz (List.length v.2.2.1)))) <|
 tst (decide (0 ≤ v.1)) <|
 tst (decide (v.1 < (zz (List.length v.2.2.2.1)))) <|
 Option.bind (zns Z ((List.getD v.2.2.1 (Int.toNat v.1) 0,()),(List.getD v.2.2.2.1 (Int.toNat v.1) 0,()),())) fun y_2 =>
 tst (decide (0 ≤ v.1)) <|
 tst (decide (v.1 < (zz (List.length v.2.2.2.2)))) <|
 tst (decide (Int.toNat v.1 < List.length v.2.2.2.2)) <|
 g0 (w64 (v.1 + (1:Int)),v.2.1,v.2.2.1,v.2.2.2.1,List.set v.2.2.2.2 (Int.toNat v.1) y_2.1.1))
 (some ((v.2.2.2.2,())))
def zjI (Z:Nat) (g0:zdo → Option ((List Int) × Unit)):zdo → Option ((List Int) × Unit):=zf5 Z g0
theorem zAw (Z:Nat) (G):zjH.lp (zf3 Z) 0 Z G (endX zf4 zbg) 0 zr2 = iter (zjI Z) Z:=C.lp_iter fun g v => by kernel_rfl
def zjJ (Z:Nat) (X0:zdo → Option ((List Int) × Unit)) (x0:List Int) (x1:List Int):Option ((List Int) × Unit) :=
 tst (decide (0 ≤ (zz (List.length x0)))) <|
 tst (decide ((zz (List.length x0)) ≤ (zz (List.length x0)))) <|
 tst (decide (Int.toNat (zz (List.length x0)) < LIM)) <|
 X0 ((0:Int),(zz (List.length (List.replicate (Int.toNat (zz (List.length x0))) (Kd.dflt I6)))),x0,x1,List.replicate (Int.toNat (zz (List.length x0))) 0)
def zjK (Z:Nat) (z:((List Int) × ((List Int) × Unit))):Option ((List Int) × Unit):=zjJ Z (iter (zjI Z) Z) z.1 z.2.1
theorem zAx (Z:Nat) (xa:zbg.rt.T) (xd:zbg.D.T):zbg.go (zf3 Z) Z zjH zf4 xa xd = zjK Z (zbg.xb (xa,xd)) :=
 (show zbg.go (zf3 Z) Z zjH zf4 xa xd = zjJ Z (zjH.lp (zf3 Z) 0 Z (fun _ _ _ => none) (endX zf4 zbg) 0 zr2) xd.1 xd.2.1 by kernel_rfl).trans (by rw [zAw]; rfl)
abbrev zr3 (Z:Nat):LE:=⟨zbg,zjK Z⟩
theorem zAy (Z:Nat):EntryOK Tryz.prog 179 (zr3 Z).te:=okF (T:=zf3 Z) (fn:=Tryz.f179) (le:=zr3 Z) (frz:=[]) (ann:=zr1) (cuts:=[]) (rv:=zf4) (TabOK.of (entCons (zAt Z) entNil) (methNil)) mixed (by kernel_rfl) (by kernel_rfl) (by kernel_rfl) (fun _ => rfl) (fun _ => rfl) (fun xa xd y h => ⟨Z,(zAx Z xa xd).trans h⟩)
def znt (Z:Nat) (x0:List Int) (x1:List Int):Option (((List Int) × Unit) × Unit) :=
 Option.bind (zjK Z (x0,x1,())) fun y_1 =>
 some (((y_1.1,()),()))
def zf6 (Z:Nat) (z:(((List Int) × Unit) × (((List Int) × Unit) × Unit))):Option (((List Int) × Unit) × Unit):=znt Z z.1.1 z.2.1.1
abbrev zr4 (Z:Nat):LE:=⟨.pure (.grp (.dat (Kd.list I6) .nil) (.grp (.dat (Kd.list I6) .nil) .nil)) (.grp (.own 0 I6 .nil) .nil) false,zf6 Z⟩
theorem zAz (Z:Nat):EntryOK Tryz.prog 178 (zr4 Z).te:=okS (fn:=Tryz.f178) (frz:=[]) (ann:=[]) (cuts:=[]) (rv:=[(4,none)]) Z (TabOK.of (entCons (zAy Z) entNil) (methNil)) mixed (by kernel_rfl) (by kernel_rfl) (by kernel_rfl) (fun _ => rfl) (fun _ => rfl) (fun _ _ => by kernel_rfl)
def zr5 (Z:Nat):Tab:=Tab.of [(178,(zr4 Z).te)] []
def zr6:List Norm:=[⟨[14,13,7,2,0,1],[],[],[]⟩]
noncomputable def zAA:C:=irOf Tryz.prog Tryz.f177 [11] zr6 []
def zr7:List (Nat × Option (Nat × Bool)):=[(6,none)]
abbrev zAB:Sx:=.dat (Kd.list (Kd.list I6)) (.dat (Kd.list (Kd.list I6)) (.fnc 178 .nil))
abbrev zAC:Sx:=.osl 1 (.own 0 I6 (.own 0 I6 (.own 0 I6 .nil))) .nil
abbrev znu:LF:=.via zAB zAC false ((List (List Int)) × Unit) (fun (p:(List Int × (List Int × (List Int × Unit))) × Unit) => ([p.1.1,p.1.2.1,p.1.2.2.1],())) (fun (y:(List (List Int)) × Unit) => ((y.1.getD 0 [],y.1.getD 1 [],y.1.getD 2 [],()),()))
def zdp (Z:Nat) (x0:List Int) (x1:List Int) (x2:List Int) (x3:List Int) (x4:List Int) (x5:List Int):Option ((List (List Int)) × Unit) :=
 Option.bind (zf6 Z ((x0,()),(x3,()),())) fun y_1 =>
 Option.bind (zf6 Z ((x1,()),(x4,()),())) fun y_2 =>
 Option.bind (zf6 Z ((x2,()),(x5,()),())) fun y_3 =>
 some (([y_1.1.1,y_2.1.1,y_3.1.1],()))
def znv (Z:Nat) (z:((List (List Int)) × ((List (List Int)) × Unit))):Option ((List (List Int)) × Unit):=lit3 z.1 fun x0 x1 x2 => lit3 z.2.1 fun x3 x4 x5 => zdp Z x0 x1 x2 x3 x4 x5
theorem zAD (Z:Nat) (xa:znu.rt.T) (x0:List Int) (x1:List Int) (x2:List Int) (x3:List Int) (x4:List Int) (x5:List Int):znu.go (zr5 Z) (Z + 6) zAA zr7 xa ([x0,x1,x2],[x3,x4,x5],()) = zdp Z x0 x1 x2 x3 x4 x5:=by kernel_rfl
abbrev zr8 (Z:Nat):LE:=⟨znu,znv Z⟩
theorem zAE (Z:Nat):EntryOK Tryz.prog 177 (zr8 Z).te:=okF (T:=zr5 Z) (fn:=Tryz.f177) (le:=zr8 Z) (frz:=[11]) (ann:=zr6) (cuts:=[]) (rv:=zr7) (TabOK.of (entCons (zAz Z) entNil) (methNil)) mixed (by kernel_rfl) (by kernel_rfl) (by kernel_rfl) (fun _ => rfl) (fun _ => rfl) (fun xa xd y h => by
  obtain ⟨l0,l1,⟨⟩⟩:=xd
  obtain ⟨x0,x1,x2,rfl,h⟩:=zp2 (show lit3 l0 (fun x0 x1 x2 => lit3 l1 fun x3 x4 x5 => zdp Z x0 x1 x2 x3 x4 x5) = some y from h)
  obtain ⟨x3,x4,x5,rfl,h⟩:=zp2 (show lit3 l1 (fun x3 x4 x5 => zdp Z x0 x1 x2 x3 x4 x5) = some y from h)
  exact ⟨(Z + 6),(zAD Z xa x0 x1 x2 x3 x4 x5).trans h⟩)
def znw (Z:Nat) (x0:List (List Int)) (x1:List (List Int)):Option (((List (List Int)) × Unit) × Unit) :=
 Option.bind (znv Z (x0,x1,())) fun y_1 =>
 some ((([List.getD y_1.1 0 [],List.getD y_1.1 1 [],List.getD y_1.1 2 []],()),()))
def znx (Z:Nat) (z:(((List (List Int)) × Unit) × (((List (List Int)) × Unit) × Unit))):Option (((List (List Int)) × Unit) × Unit):=znw Z z.1.1 z.2.1.1
abbrev zAF (Z:Nat):LE:=⟨.via (.agg (.dat (Kd.list (Kd.list I6)) .nil) (.agg (.dat (Kd.list (Kd.list I6)) .nil) .nil)) (.agg (.osl 1 (.own 0 I6 (.own 0 I6 (.own 0 I6 .nil))) .nil) .nil) false (((List (List Int)) × Unit) × Unit) (fun (p:((List Int × (List Int × (List Int × Unit))) × Unit) × Unit) => (([p.1.1.1,p.1.1.2.1,p.1.1.2.2.1],()),())) (fun (y:((List (List Int)) × Unit) × Unit) => (((y.1.1.getD 0 [],y.1.1.getD 1 [],y.1.1.getD 2 [],()),()),())),znx Z⟩
theorem zAG (Z:Nat):EntryOK Tryz.prog 153 (zAF Z).te:=okS (fn:=Tryz.f153) (frz:=[]) (ann:=[]) (cuts:=[]) (rv:=[(4,some (1,true))]) Z (TabOK.of (entCons (zAE Z) entNil) (methNil)) mixed (by kernel_rfl) (by kernel_rfl) (by kernel_rfl) (fun _ => rfl) (fun _ => rfl) (fun _ _ => by kernel_rfl)
def zny (Z:Nat) (x0:Int) (x1:Int):Option ((Int × Unit) × Unit) :=
 Option.bind (zS Z ((x1,()),())) fun y_1 =>
 cond (!y_1.1.1)
 (some ((((-1:Int),()),())))
 (cond (x0 == (0:Int))
 (some (((Int.tmod (w64 (w64 ((3:Int) * x1) + w64 (Int.tdiv x1 (8:Int)))) (8:Int),()),())))
 (cond (x0 == (1:Int))
 (some (((Int.tmod (w64 (w64 (w64 ((5:Int) * x1) + w64 (Int.tdiv x1 (16:Int))) + (1:Int))) (8:Int),()),())))
 (cond (x0 == (2:Int))
 (some (((Int.tmod (w64 (w64 (x1 + w64 (Int.tdiv x1 (4:Int))) + (2:Int))) (8:Int),()),())))
 (some ((((-1:Int),()),()))))))
def zf7 (Z:Nat) (z:((Int × Unit) × ((Int × Unit) × Unit))):Option ((Int × Unit) × Unit):=zny Z z.1.1 z.2.1.1
abbrev zAH (Z:Nat):LE:=⟨.pure (.grp (.dat I6 .nil) (.grp (.dat I6 .nil) .nil)) (.grp (.dat I6 .nil) .nil) true,zf7 Z⟩
theorem zAI (Z:Nat):EntryOK Tryz.prog 273 (zAH Z).te:=okS (fn:=Tryz.f273) (frz:=[]) (ann:=[]) (cuts:=[]) (rv:=[(4,none)]) Z (TabOK.of (entCons (zca Z) entNil) (methNil)) mixed (by kernel_rfl) (by kernel_rfl) (by kernel_rfl) (fun _ => rfl) (fun _ => rfl) (fun _ _ => by kernel_rfl)
def znz (Z:Nat) (x0:List (List Int)) (x1:Int) (x2:Int):Option (((List (List Int)) × Unit) × ((Bool × Unit) × Unit)) :=
 Option.bind (zf2 Z ((x0,()),())) fun y_1 =>
 cond (!y_1.1.1)
 (some ((([],()),(false,()),())))
 (Option.bind (zS Z ((x1,()),())) fun y_3 =>
 cond (!y_3.1.1)
 (some ((([],()),(false,()),())))
 (cond (decide (x2 < (0:Int)))
 (some ((([],()),(false,()),())))
 (Option.bind (znr Z ((x0,()),())) fun y_6 =>
 cond (decide (x2 > w64 ((2000:Int) - y_6.1.1)))
 (some ((([],()),(false,()),())))
 (Option.bind (zjG Z ()) fun y_8 =>
 Option.bind (znx Z ((x0,()),(y_8.1.1,()),())) fun y_9 =>
 Option.bind (zf7 Z (((0:Int),()),(x1,()),())) fun y_10 =>
 tst (decide (0 ≤ y_10.1.1)) <|
 tst (decide (y_10.1.1 < (zz (List.length (List.getD y_9.1.1 0 []))))) <|
 tst (decide (Int.toNat y_10.1.1 < List.length (List.getD y_9.1.1 0 []))) <|
 tst (decide (0 ≤ y_10.1.1)) <|
 tst (decide (y_10.1.1 < (zz (List.length (List.getD y_9.1.1 0 []))))) <|
 tst (decide (Int.toNat y_10.1.1 < List.length (List.getD y_9.1.1 0 []))) <|
 let z1_4:=List.set (List.getD y_9.1.1 0 []) (Int.toNat y_10.1.1) (w64 (List.getD (List.getD y_9.1.1 0 []) (Int.toNat y_10.1.1) 0 + x2));
 Option.bind (zf7 Z (((1:Int),()),(x1,()),())) fun y_11 =>
 tst (decide (0 ≤ y_11.1.1)) <|
 tst (decide (y_11.1.1 < (zz (List.length (List.getD y_9.1.1 1 []))))) <|
 tst (decide (Int.toNat y_11.1.1 < List.length (List.getD y_9.1.1 1 []))) <|
 tst (decide (0 ≤ y_11.1.1)) <|
 tst (decide (y_11.1.1 < (zz (List.length (List.getD y_9.1.1 1 []))))) <|
 tst (decide (Int.toNat y_11.1.1 < List.length (List.getD y_9.1.1 1 []))) <|
 let z2_5:=List.set (List.getD y_9.1.1 1 []) (Int.toNat y_11.1.1) (w64 (List.getD (List.getD y_9.1.1 1 []) (Int.toNat y_11.1.1) 0 + x2));
 Option.bind (zf7 Z (((2:Int),()),(x1,()),())) fun y_12 =>
 tst (decide (0 ≤ y_12.1.1)) <|
 tst (decide (y_12.1.1 < (zz (List.length (List.getD y_9.1.1 2 []))))) <|
 tst (decide (Int.toNat y_12.1.1 < List.length (List.getD y_9.1.1 2 []))) <|
 tst (decide (0 ≤ y_12.1.1)) <|
 tst (decide (y_12.1.1 < (zz (List.length (List.getD y_9.1.1 2 []))))) <|
 tst (decide (Int.toNat y_12.1.1 < List.length (List.getD y_9.1.1 2 []))) <|
 let z3_6:=List.set (List.getD y_9.1.1 2 []) (Int.toNat y_12.1.1) (w64 (List.getD (List.getD y_9.1.1 2 []) (Int.toNat y_12.1.1) 0 + x2));
 some ((([z1_4,z2_5,z3_6],()),(true,()),()))))))
def znA (Z:Nat) (z:(((List (List Int)) × Unit) × ((Int × Unit) × ((Int × Unit) × Unit)))):Option (((List (List Int)) × Unit) × ((Bool × Unit) × Unit)):=znz Z z.1.1 z.2.1.1 z.2.2.1.1
abbrev zAJ (Z:Nat):LE:=⟨.pure (.agg (.dat (Kd.list (Kd.list I6)) .nil) (.grp (.dat I6 .nil) (.grp (.dat I6 .nil) .nil))) (.agg (.dat (Kd.list (Kd.list I6)) .nil) (.grp (.dat Kd.bool .nil) .nil)) false,znA Z⟩
theorem zAK (Z:Nat):EntryOK Tryz.prog 272 (zAJ Z).te:=okS (fn:=Tryz.f272) (frz:=[]) (ann:=[⟨[36,35,8,1,2,6],[],[],[]⟩]) (cuts:=[]) (rv:=[(6,some (1,true)),(7,none)]) (Z + 6) (TabOK.of (entCons (zAp Z) (entCons (zca Z) (entCons (zrZ Z) (entCons (zrW Z) (entCons (zAG Z) (entCons (zAI Z) entNil)))))) (methNil)) mixed (by kernel_rfl) (by kernel_rfl) (by kernel_rfl) (fun _ => rfl) (fun _ => rfl) (fun _ _ => by kernel_rfl)
def znB (Z:Nat) (x0:List (List Int)) (x1:Int):Option ((((List (List Int)) × Unit) × Unit) × (Bool × Unit)) :=
 Option.bind (znA Z ((x0,()),(x1,()),((1:Int),()),())) fun y_1 =>
 some ((((y_1.1.1,()),()),y_1.2.1.1,()))
def znC (Z:Nat) (z:(((List (List Int)) × Unit) × (Int × Unit))):Option ((((List (List Int)) × Unit) × Unit) × (Bool × Unit)):=znB Z z.1.1 z.2.1
abbrev zr9 (Z:Nat):LE:=⟨.pure (.agg (.dat (Kd.list (Kd.list I6)) .nil) (.dat I6 .nil)) (.ifc 36 (.agg (.dat (Kd.list (Kd.list I6)) .nil) .nil) (.dat Kd.bool .nil)) false,znC Z⟩
theorem zAL (Z:Nat):EntryOK Tryz.prog 271 (zr9 Z).te:=okS (fn:=Tryz.f271) (frz:=[]) (ann:=[]) (cuts:=[]) (rv:=[(4,none),(5,none)]) Z (TabOK.of (entCons (zAK Z) entNil) (methNil)) mixed (by kernel_rfl) (by kernel_rfl) (by kernel_rfl) (fun _ => rfl) (fun _ => rfl) (fun _ _ => by kernel_rfl)
def zf8 (Z:Nat):Tab:=Tab.of [] []
def zsa:List Norm:=[⟨[13,12,11,3],[],[],[]⟩]
noncomputable def zjL:C:=irOf Tryz.prog Tryz.f154 [] zsa []
def zf9:List (Nat × Option (Nat × Bool)):=[(2,none)]
abbrev zAM:Sx:=.agg (.dat (Kd.list I6) .nil) .nil
abbrev zAN:Sx:=.grp (.dat Kd.bool .nil) .nil
abbrev zbh:LF:=.pure zAM zAN true
abbrev zdq:=(Int) × (Int) × (List Int) × (Int)
def zsb (v:zdq):Env × Heap:=([(13,SV.int .i64 v.1),(12,SV.int .i64 v.2.1),(11,SV.es I6 v.2.2.1),(3,SV.int .i64 v.2.2.2)],[])
def zga (Z:Nat) (g0:zdq → Option ((Bool × Unit) × Unit)) (v:zdq):Option ((Bool × Unit) × Unit) :=
 cond (decide (v.1 < v.2.1))
 (tst (decide (0 ≤ v.1)) <|
 tst (decide (v.1 < (zz (List.length v.2.2.1)))) <|
 cond (decide (List.getD v.2.2.1 (Int.toNat v.1) 0 ≤ v.2.2.2))
 (some (((false,()),())))
 (cond (decide (List.getD v.2.2.1 (Int.toNat v.1) 0 ≥ (64:Int)))
 (some (((false,()),())))
 (g0 (w64 (v.1 + (1:Int)),v.2.1,v.2.2.1,List.getD v.2.2.1 (Int.toNat v.1) 0))))
 (some (((true,()),())))
def zjM (Z:Nat) (g0:zdq → Option ((Bool × Unit) × Unit)):zdq → Option ((Bool × Unit) × Unit):=zga Z g0
theorem zAO (Z:Nat) (G):zjL.lp (zf8 Z) 0 Z G (endX zf9 zbh) 0 zsb = iter (zjM Z) Z:=C.lp_iter fun g v => by kernel_rfl
def zjN (Z:Nat) (X0:zdq → Option ((Bool × Unit) × Unit)) (x0:List Int):Option ((Bool × Unit) × Unit) :=
 cond (decide ((zz (List.length x0)) > (6:Int)))
 (some (((false,()),())))
 (X0 ((0:Int),(zz (List.length x0)),x0,(-1:Int)))
def zjO (Z:Nat) (z:(((List Int) × Unit) × Unit)):Option ((Bool × Unit) × Unit):=zjN Z (iter (zjM Z) Z) z.1.1
theorem zAP (Z:Nat) (xa:zbh.rt.T) (xd:zbh.D.T):zbh.go (zf8 Z) Z zjL zf9 xa xd = zjO Z (zbh.xb (xa,xd)) :=
 (show zbh.go (zf8 Z) Z zjL zf9 xa xd = zjN Z (zjL.lp (zf8 Z) 0 Z (fun _ _ _ => none) (endX zf9 zbh) 0 zsb) xd.1.1 by kernel_rfl).trans (by rw [zAO]; rfl)
abbrev zsc (Z:Nat):LE:=⟨zbh,zjO Z⟩
theorem zAQ (Z:Nat):EntryOK Tryz.prog 154 (zsc Z).te:=okF (T:=zf8 Z) (fn:=Tryz.f154) (le:=zsc Z) (frz:=[]) (ann:=zsa) (cuts:=[]) (rv:=zf9) (TabOK.of (entNil) (methNil)) mixed (by kernel_rfl) (by kernel_rfl) (by kernel_rfl) (fun _ => rfl) (fun _ => rfl) (fun xa xd y h => ⟨Z,(zAP Z xa xd).trans h⟩)
def znD (Z:Nat) (x0:Int):Option ((Int × Unit) × Unit) :=
 Option.bind (zS Z ((x0,()),())) fun y_1 =>
 cond (!y_1.1.1)
 (some ((((-1:Int),()),())))
 (some (((Int.tmod (w64 (w64 ((37:Int) * x0) + (11:Int))) (64:Int),()),())))
def znE (Z:Nat) (z:((Int × Unit) × Unit)):Option ((Int × Unit) × Unit):=znD Z z.1.1
abbrev zAR (Z:Nat):LE:=⟨.pure (.grp (.dat I6 .nil) .nil) (.grp (.dat I6 .nil) .nil) true,znE Z⟩
theorem zAS (Z:Nat):EntryOK Tryz.prog 277 (zAR Z).te:=okS (fn:=Tryz.f277) (frz:=[]) (ann:=[]) (cuts:=[]) (rv:=[(2,none)]) Z (TabOK.of (entCons (zca Z) entNil) (methNil)) mixed (by kernel_rfl) (by kernel_rfl) (by kernel_rfl) (fun _ => rfl) (fun _ => rfl) (fun _ _ => by kernel_rfl)
def znF (Z:Nat) (x0:List Int) (x1:Int):Option (((List Int) × Unit) × ((Bool × Unit) × Unit)) :=
 Option.bind (zjO Z ((x0,()),())) fun y_1 =>
 cond (!y_1.1.1)
 (some ((([],()),(false,()),())))
 (Option.bind (zS Z ((x1,()),())) fun y_3 =>
 cond (!y_3.1.1)
 (some ((([],()),(false,()),())))
 (Option.bind (znE Z ((x1,()),())) fun y_5 =>
 Option.bind (zno Z ((x0,()),([y_5.1.1],()),())) fun y_6 =>
 some (((y_6.1.1,()),(true,()),()))))
def znG (Z:Nat) (z:(((List Int) × Unit) × ((Int × Unit) × Unit))):Option (((List Int) × Unit) × ((Bool × Unit) × Unit)):=znF Z z.1.1 z.2.1.1
abbrev zAT (Z:Nat):LE:=⟨.pure (.agg (.dat (Kd.list I6) .nil) (.grp (.dat I6 .nil) .nil)) (.agg (.own 0 I6 .nil) (.grp (.dat Kd.bool .nil) .nil)) true,znG Z⟩
theorem zAU (Z:Nat):EntryOK Tryz.prog 276 (zAT Z).te:=okS (fn:=Tryz.f276) (frz:=[]) (ann:=[]) (cuts:=[]) (rv:=[(4,some (1,true)),(5,none)]) Z (TabOK.of (entCons (zca Z) (entCons (zAQ Z) (entCons (zAf Z) (entCons (zAS Z) entNil)))) (methNil)) mixed (by kernel_rfl) (by kernel_rfl) (by kernel_rfl) (fun _ => rfl) (fun _ => rfl) (fun _ _ => by kernel_rfl)
def znH (Z:Nat) (x0:List Int) (x1:Int):Option ((((List Int) × Unit) × Unit) × (Bool × Unit)) :=
 Option.bind (znG Z ((x0,()),(x1,()),())) fun y_1 =>
 some ((((y_1.1.1,()),()),y_1.2.1.1,()))
def znI (Z:Nat) (z:(((List Int) × Unit) × (Int × Unit))):Option ((((List Int) × Unit) × Unit) × (Bool × Unit)):=znH Z z.1.1 z.2.1
abbrev zsd (Z:Nat):LE:=⟨.pure (.agg (.dat (Kd.list I6) .nil) (.dat I6 .nil)) (.ifc 38 (.agg (.dat (Kd.list I6) .nil) .nil) (.dat Kd.bool .nil)) false,znI Z⟩
theorem zAV (Z:Nat):EntryOK Tryz.prog 275 (zsd Z).te:=okS (fn:=Tryz.f275) (frz:=[]) (ann:=[]) (cuts:=[]) (rv:=[(4,none),(5,none)]) Z (TabOK.of (entCons (zAU Z) entNil) (methNil)) mixed (by kernel_rfl) (by kernel_rfl) (by kernel_rfl) (fun _ => rfl) (fun _ => rfl) (fun _ _ => by kernel_rfl)
end Go.Proofs.YtljojacnjjgceaaGreat.Den
namespace Go.Proofs.YtljojacnjjgceaaGreat.Den
open Go Go.RowKit
def zgb (Z:Nat):Tab:=Tab.of [] []
def zse:List Norm:=[⟨[37,36,35,4,3,1],[],[],[]⟩]
noncomputable def zjP:C:=irOf Tryz.prog Tryz.f156 [] zse []
def zgc:List (Nat × Option (Nat × Bool)):=[(2,none)]
abbrev zAW:Sx:=.agg (.dat (Kd.list KP) (.dat I6 (.dat I6 .nil))) .nil
abbrev zAX:Sx:=.grp (.dat Kd.bool .nil) .nil
abbrev zbi:LF:=.pure zAW zAX true
abbrev zdr:=(Int) × (Int) × LP × (Int) × (Int) × LP × (Int) × (Int)
def zsf (v:zdr):Env × Heap:=([(37,SV.int .i64 v.1),(36,SV.int .i64 v.2.1),(35,SV.es KP v.2.2.1),(4,SV.int .i64 v.2.2.2.1),(3,SV.int .i64 v.2.2.2.2.1),(1,SV.ptr 0 0)],[Blk.cells [SV.es KP v.2.2.2.2.2.1,SV.int .i64 v.2.2.2.2.2.2.1,SV.int .i64 v.2.2.2.2.2.2.2] 0 3])
def zgd (Z:Nat) (g0:zdr → Option ((Bool × Unit) × Unit)) (v:zdr):Option ((Bool × Unit) × Unit) :=
 cond (decide (v.1 < v.2.1))
 (tst (decide (0 ≤ v.1)) <|
 tst (decide (v.1 < (zz (List.length v.2.2.1)))) <|
 cond (decide ((List.getD v.2.2.1 (Int.toNat v.1) (0,(0,()))).1 ≤ v.2.2.2.1))
 (some (((false,()),())))
 (cond (decide ((List.getD v.2.2.1 (Int.toNat v.1) (0,(0,()))).1 ≥ (64:Int)))
 (some (((false,()),())))
 (cond (decide ((List.getD v.2.2.1 (Int.toNat v.1) (0,(0,()))).2.1 < (1:Int)))
 (some (((false,()),())))
 (cond (decide ((List.getD v.2.2.1 (Int.toNat v.1) (0,(0,()))).2.1 > (2000:Int)))
 (some (((false,()),())))
 (g0 (w64 (v.1 + (1:Int)),v.2.1,v.2.2.1,(List.getD v.2.2.1 (Int.toNat v.1) (0,(0,()))).1,w64 (v.2.2.2.2.1 + (List.getD v.2.2.1 (Int.toNat v.1) (0,(0,()))).2.1),v.2.2.2.2.2.1,v.2.2.2.2.2.2.1,v.2.2.2.2.2.2.2))))))
 (some (((decide (v.2.2.2.2.1 ≤ v.2.2.2.2.2.2.2),()),())))
def zjQ (Z:Nat) (g0:zdr → Option ((Bool × Unit) × Unit)):zdr → Option ((Bool × Unit) × Unit):=zgd Z g0
theorem zAY (Z:Nat) (G):zjP.lp (zgb Z) 0 Z G (endX zgc zbi) 0 zsf = iter (zjQ Z) Z:=C.lp_iter fun g v => by kernel_rfl
def zjR (Z:Nat) (X0:zdr → Option ((Bool × Unit) × Unit)) (x0:LP) (x1:Int) (x2:Int):Option ((Bool × Unit) × Unit) :=
 cond (decide ((zz (List.length x0)) > (4:Int)))
 (some (((false,()),())))
 (cond (decide (x1 < (0:Int)))
 (some (((false,()),())))
 (cond (decide (x1 > (2000:Int)))
 (some (((false,()),())))
 (cond (decide (x2 < (0:Int)))
 (some (((false,()),())))
 (cond (decide (x2 > (2000:Int)))
 (some (((false,()),())))
 (X0 ((0:Int),(zz (List.length x0)),x0,(-1:Int),w64 (x1 * (5:Int)),x0,x1,x2))))))
def zjS (Z:Nat) (z:((LP × (Int × (Int × Unit))) × Unit)):Option ((Bool × Unit) × Unit):=zjR Z (iter (zjQ Z) Z) z.1.1 z.1.2.1 z.1.2.2.1
theorem zAZ (Z:Nat) (xa:zbi.rt.T) (xd:zbi.D.T):zbi.go (zgb Z) Z zjP zgc xa xd = zjS Z (zbi.xb (xa,xd)) :=
 (show zbi.go (zgb Z) Z zjP zgc xa xd = zjR Z (zjP.lp (zgb Z) 0 Z (fun _ _ _ => none) (endX zgc zbi) 0 zsf) xd.1.1 xd.1.2.1 xd.1.2.2.1 by kernel_rfl).trans (by rw [zAY]; rfl)
abbrev zsg (Z:Nat):LE:=⟨zbi,zjS Z⟩
theorem zA0 (Z:Nat):EntryOK Tryz.prog 156 (zsg Z).te:=okF (T:=zgb Z) (fn:=Tryz.f156) (le:=zsg Z) (frz:=[]) (ann:=zse) (cuts:=[]) (rv:=zgc) (TabOK.of (entNil) (methNil)) mixed (by kernel_rfl) (by kernel_rfl) (by kernel_rfl) (fun _ => rfl) (fun _ => rfl) (fun xa xd y h => ⟨Z,(zAZ Z xa xd).trans h⟩)
def znJ (Z:Nat) (x0:LP):Option ((LP × Unit) × Unit) :=
 tst (decide (0 < List.length x0)) <|
 tst (decide (0 + List.length x0 < LIM)) <|
 some ((([] ++ x0,()),()))
def znK (Z:Nat) (z:((LP × Unit) × Unit)):Option ((LP × Unit) × Unit):=znJ Z z.1.1
abbrev zsh (Z:Nat):LE:=⟨.pure (.grp (.dat (Kd.list KP) .nil) .nil) (.grp (.own 0 KP .nil) .nil) true,znK Z⟩
theorem zA1 (Z:Nat):EntryOK Tryz.prog 114 (zsh Z).te:=okS (fn:=Tryz.f114) (frz:=[]) (ann:=[]) (cuts:=[]) (rv:=[(2,none)]) Z (TabOK.of (entNil) (methNil)) mixed (by kernel_rfl) (by kernel_rfl) (by kernel_rfl) (fun _ => rfl) (fun _ => rfl) (fun _ _ => by kernel_rfl)
def zA2 (Z:Nat) (x0:Int):Option ((Bool × Unit) × Unit) :=
 some (((x0 != x0,()),()))
def zjT (Z:Nat) (z:((Int × Unit) × Unit)):Option ((Bool × Unit) × Unit):=zA2 Z z.1.1
abbrev zA3 (Z:Nat):LE:=⟨.pure (.grp (.dat I6 .nil) .nil) (.grp (.dat Kd.bool .nil) .nil) true,zjT Z⟩
theorem zA4 (Z:Nat):EntryOK Tryz.prog 238 (zA3 Z).te:=okS (fn:=Tryz.f238) (frz:=[]) (ann:=[]) (cuts:=[]) (rv:=[(2,none)]) Z (TabOK.of (entNil) (methNil)) mixed (by kernel_rfl) (by kernel_rfl) (by kernel_rfl) (fun _ => rfl) (fun _ => rfl) (fun _ _ => by kernel_rfl)
def znL (Z:Nat) (x0:Int) (x1:Int):Option ((Int × Unit) × Unit) :=
 Option.bind (zjT Z ((x0,()),())) fun y_1 =>
 Option.bind (zjT Z ((x1,()),())) fun y_2 =>
 cond (y_1.1.1)
 (cond (y_2.1.1)
 (some ((((0:Int),()),())))
 (some ((((-1:Int),()),()))))
 (cond (y_2.1.1)
 (some ((((1:Int),()),())))
 (cond (decide (x0 < x1))
 (some ((((-1:Int),()),())))
 (cond (decide (x0 > x1))
 (some ((((1:Int),()),())))
 (some ((((0:Int),()),()))))))
def zjU (Z:Nat) (z:((Int × Unit) × ((Int × Unit) × Unit))):Option ((Int × Unit) × Unit):=znL Z z.1.1 z.2.1.1
abbrev zA5 (Z:Nat):LE:=⟨.pure (.grp (.dat I6 .nil) (.grp (.dat I6 .nil) .nil)) (.grp (.dat I6 .nil) .nil) true,zjU Z⟩
theorem zsi (Z:Nat):EntryOK Tryz.prog 230 (zA5 Z).te:=okS (fn:=Tryz.f230) (frz:=[]) (ann:=[]) (cuts:=[]) (rv:=[(4,none)]) Z (TabOK.of (entCons (zA4 Z) entNil) (methNil)) mixed (by kernel_rfl) (by kernel_rfl) (by kernel_rfl) (fun _ => rfl) (fun _ => rfl) (fun _ _ => by kernel_rfl)
def znM (Z:Nat) (x0:Int) (x1:Int) (x2:Int) (x3:Int):Option ((Int × Unit) × Unit) :=
 Option.bind (zjU Z ((x0,()),(x2,()),())) fun y_1 =>
 some (((y_1.1.1,()),()))
def znN (Z:Nat) (z:((Int × (Int × Unit)) × ((Int × (Int × Unit)) × Unit))):Option ((Int × Unit) × Unit):=znM Z z.1.1 z.1.2.1 z.2.1.1 z.2.1.2.1
abbrev znO (Z:Nat):LE:=⟨.pure (.agg (.dat I6 (.dat I6 .nil)) (.agg (.dat I6 (.dat I6 .nil)) .nil)) (.grp (.dat I6 .nil) .nil) true,znN Z⟩
theorem zsj (Z:Nat):EntryOK Tryz.prog 217 (znO Z).te:=okS (fn:=Tryz.f217) (frz:=[]) (ann:=[]) (cuts:=[]) (rv:=[(4,none)]) Z (TabOK.of (entCons (zsi Z) entNil) (methNil)) mixed (by kernel_rfl) (by kernel_rfl) (by kernel_rfl) (fun _ => rfl) (fun _ => rfl) (fun _ _ => by kernel_rfl)
def znP (Z:Nat) (x0:Int) (x1:Int) (x2:Int) (x3:Int):Option ((Int × Unit) × Unit) :=
 Option.bind (zjU Z ((x3,()),(x1,()),())) fun y_1 =>
 some (((y_1.1.1,()),()))
def znQ (Z:Nat) (z:((Int × (Int × Unit)) × ((Int × (Int × Unit)) × Unit))):Option ((Int × Unit) × Unit):=znP Z z.1.1 z.1.2.1 z.2.1.1 z.2.1.2.1
abbrev znR (Z:Nat):LE:=⟨.pure (.agg (.dat I6 (.dat I6 .nil)) (.agg (.dat I6 (.dat I6 .nil)) .nil)) (.grp (.dat I6 .nil) .nil) true,znQ Z⟩
theorem zsk (Z:Nat):EntryOK Tryz.prog 218 (znR Z).te:=okS (fn:=Tryz.f218) (frz:=[]) (ann:=[]) (cuts:=[]) (rv:=[(4,none)]) Z (TabOK.of (entCons (zsi Z) entNil) (methNil)) mixed (by kernel_rfl) (by kernel_rfl) (by kernel_rfl) (fun _ => rfl) (fun _ => rfl) (fun _ _ => by kernel_rfl)
abbrev zy:=Option (LP × Unit)
def zad (Z:Nat):Tab:=Tab.of [(217,(znO Z).te),(218,(znR Z).te)] []
def zsl:List Norm:=[⟨[8,2,1,3,0],[],[],[]⟩,⟨[9,1,3,0,8,2],[],[],[]⟩]
noncomputable def zT:C:=irOf Tryz.prog Tryz.f239 [] zsl []
def zaE:List (Nat × Option (Nat × Bool)):=[]
abbrev zA6:Sx:=.dat I6 (.dat I6 (.fnc 217 .nil))
abbrev zA7:Sx:=.nil
abbrev zU:LF:=.slc KP zA6 zA7 false
abbrev zaF:=(Int) × (Int) × (Int) × LP
abbrev zds:=(Int) × (Int) × (Int) × (Int) × LP
def zat (v:zaF):Env × Heap:=([(8,SV.int .i64 v.1),(2,SV.int .i64 v.2.1),(1,SV.int .i64 v.2.2.1),(3,SV.fn (Fn.func 217) [] []),(0,SV.own 0)],[Blk.arr KP v.2.2.2 0])
def zdt (v:zds):Env × Heap:=([(9,SV.int .i64 v.1),(1,SV.int .i64 v.2.1),(3,SV.fn (Fn.func 217) [] []),(0,SV.own 0),(8,SV.int .i64 v.2.2.1),(2,SV.int .i64 v.2.2.2.1)],[Blk.arr KP v.2.2.2.2 0])
def zdu (Z:Nat) (g0:zaF → zy) (g1:zds → zy) (v:zds):zy :=
 cond (decide (v.1 > v.2.1))
 (tst (decide (0 ≤ v.1)) <|
 tst (decide (v.1 < (zz (List.length v.2.2.2.2)))) <|
 tst (decide (Int.toNat v.1 < List.length v.2.2.2.2)) <|
 tst (decide (0 ≤ w64 (v.1 - (1:Int)))) <|
 tst (decide (w64 (v.1 - (1:Int)) < (zz (List.length v.2.2.2.2)))) <|
 tst (decide (Int.toNat (w64 (v.1 - (1:Int))) < List.length v.2.2.2.2)) <|
 Option.bind (znN Z (((List.getD v.2.2.2.2 (Int.toNat v.1) (0,(0,()))).1,(List.getD v.2.2.2.2 (Int.toNat v.1) (0,(0,()))).2.1,()),((List.getD v.2.2.2.2 (Int.toNat (w64 (v.1 - (1:Int)))) (0,(0,()))).1,(List.getD v.2.2.2.2 (Int.toNat (w64 (v.1 - (1:Int)))) (0,(0,()))).2.1,()),())) fun y_2 =>
 cond (decide (y_2.1.1 < (0:Int)))
 (tst (decide (0 ≤ w64 (v.1 - (1:Int)))) <|
 tst (decide (w64 (v.1 - (1:Int)) < (zz (List.length v.2.2.2.2)))) <|
 tst (decide (Int.toNat (w64 (v.1 - (1:Int))) < List.length v.2.2.2.2)) <|
 tst (decide (0 ≤ v.1)) <|
 tst (decide (v.1 < (zz (List.length v.2.2.2.2)))) <|
 tst (decide (Int.toNat v.1 < List.length v.2.2.2.2)) <|
 tst (decide (0 ≤ v.1)) <|
 tst (decide (v.1 < (zz (List.length v.2.2.2.2)))) <|
 tst (decide (Int.toNat v.1 < List.length v.2.2.2.2)) <|
 tst (decide (0 ≤ w64 (v.1 - (1:Int)))) <|
 tst (decide (w64 (v.1 - (1:Int)) < (zz (List.length (List.set v.2.2.2.2 (Int.toNat v.1) ((List.getD v.2.2.2.2 (Int.toNat (w64 (v.1 - (1:Int)))) (0,(0,()))).1,(List.getD v.2.2.2.2 (Int.toNat (w64 (v.1 - (1:Int)))) (0,(0,()))).2.1,())))))) <|
 tst (decide (Int.toNat (w64 (v.1 - (1:Int))) < List.length (List.set v.2.2.2.2 (Int.toNat v.1) ((List.getD v.2.2.2.2 (Int.toNat (w64 (v.1 - (1:Int)))) (0,(0,()))).1,(List.getD v.2.2.2.2 (Int.toNat (w64 (v.1 - (1:Int)))) (0,(0,()))).2.1,())))) <|
 g1 (w64 (v.1 - (1:Int)),v.2.1,v.2.2.1,v.2.2.2.1,List.set (List.set v.2.2.2.2 (Int.toNat v.1) ((List.getD v.2.2.2.2 (Int.toNat (w64 (v.1 - (1:Int)))) (0,(0,()))).1,(List.getD v.2.2.2.2 (Int.toNat (w64 (v.1 - (1:Int)))) (0,(0,()))).2.1,())) (Int.toNat (w64 (v.1 - (1:Int)))) ((List.getD v.2.2.2.2 (Int.toNat v.1) (0,(0,()))).1,(List.getD v.2.2.2.2 (Int.toNat v.1) (0,(0,()))).2.1,())))
 (g0 (w64 (v.2.2.1 + (1:Int)),v.2.2.2.1,v.2.1,v.2.2.2.2)))
 (g0 (w64 (v.2.2.1 + (1:Int)),v.2.2.2.1,v.2.1,v.2.2.2.2))
def znS (Z:Nat) (g0:zaF → zy) (g1:zds → zy):zds → zy:=zdu Z g0 g1
theorem zA8 (Z:Nat) (G):zT.lp (zad Z) 1 Z G (endX zaE zU) 1 zdt = iter (znS Z (fun v => G 0 (zat v).1 (zat v).2)) Z:=C.lp_iter fun g v =>
 (show run (zad Z) 1 Z (zT.bdAt 1) (zdt v).1 (zdt v).2 (loopK 1 (zT.nmAt 1) g (zT.contAt (zad Z) 1 Z G 0 1 (endX zaE zU))) = zdu Z (fun v => G 0 (zat v).1 (zat v).2) (fun v => g (zdt v).1 (zdt v).2) v by kernel_rfl)
def zbj (Z:Nat) (X1:zds → zy) (g0:zaF → zy) (v:zaF):zy :=
 cond (decide (v.1 < v.2.1))
 (X1 (v.1,v.2.2.1,v.1,v.2.1,v.2.2.2))
 (some ((v.2.2.2,())))
def zjV (Z:Nat) (g0:zaF → zy):zaF → zy:=zbj Z (iter (znS Z g0) Z) g0
theorem zA9 (Z:Nat) (G):zT.lp (zad Z) 1 Z G (endX zaE zU) 0 zat = iter (zjV Z) Z:=C.lp_iter fun g v =>
 (show run (zad Z) 1 Z (zT.bdAt 0) (zat v).1 (zat v).2 (loopK 1 (zT.nmAt 0) g (zT.contAt (zad Z) 1 Z G 0 0 (endX zaE zU))) = zbj Z (zT.lp (zad Z) 1 Z (fun m => bif Nat.beq m 0 then g else G m) (endX zaE zU) 1 zdt) (fun v => g (zat v).1 (zat v).2) v by kernel_rfl).trans (by rw [zA8]; rfl)
def zsm (Z:Nat) (X0:zaF → zy) (d0:LP) (x0:Int) (x1:Int):zy :=
 X0 (w64 (x0 + (1:Int)),x1,x0,d0)
def zge (Z:Nat) (z:(LP × (Unit × (Int × (Int × Unit))))):zy:=zsm Z (iter (zjV Z) Z) z.1 z.2.2.1 z.2.2.2.1
theorem zBa (Z:Nat) (xa:zU.rt.T) (xd:zU.D.T):zU.go (zad Z) Z zT zaE xa xd = zge Z (zU.xb (xa,xd)) :=
 (show zU.go (zad Z) Z zT zaE xa xd = zsm Z (zT.lp (zad Z) 1 Z (fun _ _ _ => none) (endX zaE zU) 0 zat) xa xd.1 xd.2.1 by kernel_rfl).trans (by rw [zA9]; rfl)
abbrev zjW (Z:Nat):LE:=⟨zU,zge Z⟩
theorem zsn (Z:Nat):EntryOK Tryz.prog 239 (zjW Z).te:=okF (T:=zad Z) (fn:=Tryz.f239) (le:=zjW Z) (frz:=[]) (ann:=zsl) (cuts:=[]) (rv:=zaE) (TabOK.of (entCons (zsj Z) (entCons (zsk Z) entNil)) (methNil)) mixed (by kernel_rfl) (by kernel_rfl) (by kernel_rfl) (fun _ => rfl) (fun _ => rfl) (fun xa xd y h => ⟨Z,(zBa Z xa xd).trans h⟩)
abbrev zA:=Option (LP × Unit)
def zae (Z:Nat):Tab:=Tab.of [(217,(znO Z).te),(218,(znR Z).te)] []
def zso:List Norm:=[⟨[8,2,1,3,0],[],[],[]⟩,⟨[9,1,3,0,8,2],[],[],[]⟩]
noncomputable def zV:C:=irOf Tryz.prog Tryz.f239 [] zso []
def zaG:List (Nat × Option (Nat × Bool)):=[]
abbrev zBb:Sx:=.dat I6 (.dat I6 (.fnc 218 .nil))
abbrev zBc:Sx:=.nil
abbrev zW:LF:=.slc KP zBb zBc false
abbrev zaH:=(Int) × (Int) × (Int) × LP
abbrev zdv:=(Int) × (Int) × (Int) × (Int) × LP
def zau (v:zaH):Env × Heap:=([(8,SV.int .i64 v.1),(2,SV.int .i64 v.2.1),(1,SV.int .i64 v.2.2.1),(3,SV.fn (Fn.func 218) [] []),(0,SV.own 0)],[Blk.arr KP v.2.2.2 0])
def zdw (v:zdv):Env × Heap:=([(9,SV.int .i64 v.1),(1,SV.int .i64 v.2.1),(3,SV.fn (Fn.func 218) [] []),(0,SV.own 0),(8,SV.int .i64 v.2.2.1),(2,SV.int .i64 v.2.2.2.1)],[Blk.arr KP v.2.2.2.2 0])
def zdx (Z:Nat) (g0:zaH → zA) (g1:zdv → zA) (v:zdv):zA :=
 cond (decide (v.1 > v.2.1))
 (tst (decide (0 ≤ v.1)) <|
 tst (decide (v.1 < (zz (List.length v.2.2.2.2)))) <|
 tst (decide (Int.toNat v.1 < List.length v.2.2.2.2)) <|
 tst (decide (0 ≤ w64 (v.1 - (1:Int)))) <|
 tst (decide (w64 (v.1 - (1:Int)) < (zz (List.length v.2.2.2.2)))) <|
 tst (decide (Int.toNat (w64 (v.1 - (1:Int))) < List.length v.2.2.2.2)) <|
 Option.bind (znQ Z (((List.getD v.2.2.2.2 (Int.toNat v.1) (0,(0,()))).1,(List.getD v.2.2.2.2 (Int.toNat v.1) (0,(0,()))).2.1,()),((List.getD v.2.2.2.2 (Int.toNat (w64 (v.1 - (1:Int)))) (0,(0,()))).1,(List.getD v.2.2.2.2 (Int.toNat (w64 (v.1 - (1:Int)))) (0,(0,()))).2.1,()),())) fun y_2 =>
 cond (decide (y_2.1.1 < (0:Int)))
 (tst (decide (0 ≤ w64 (v.1 - (1:Int)))) <|
 tst (decide (w64 (v.1 - (1:Int)) < (zz (List.length v.2.2.2.2)))) <|
 tst (decide (Int.toNat (w64 (v.1 - (1:Int))) < List.length v.2.2.2.2)) <|
 tst (decide (0 ≤ v.1)) <|
 tst (decide (v.1 < (zz (List.length v.2.2.2.2)))) <|
 tst (decide (Int.toNat v.1 < List.length v.2.2.2.2)) <|
 tst (decide (0 ≤ v.1)) <|
 tst (decide (v.1 < (zz (List.length v.2.2.2.2)))) <|
 tst (decide (Int.toNat v.1 < List.length v.2.2.2.2)) <|
 tst (decide (0 ≤ w64 (v.1 - (1:Int)))) <|
 tst (decide (w64 (v.1 - (1:Int)) < (zz (List.length (List.set v.2.2.2.2 (Int.toNat v.1) ((List.getD v.2.2.2.2 (Int.toNat (w64 (v.1 - (1:Int)))) (0,(0,()))).1,(List.getD v.2.2.2.2 (Int.toNat (w64 (v.1 - (1:Int)))) (0,(0,()))).2.1,())))))) <|
 tst (decide (Int.toNat (w64 (v.1 - (1:Int))) < List.length (List.set v.2.2.2.2 (Int.toNat v.1) ((List.getD v.2.2.2.2 (Int.toNat (w64 (v.1 - (1:Int)))) (0,(0,()))).1,(List.getD v.2.2.2.2 (Int.toNat (w64 (v.1 - (1:Int)))) (0,(0,()))).2.1,())))) <|
 g1 (w64 (v.1 - (1:Int)),v.2.1,v.2.2.1,v.2.2.2.1,List.set (List.set v.2.2.2.2 (Int.toNat v.1) ((List.getD v.2.2.2.2 (Int.toNat (w64 (v.1 - (1:Int)))) (0,(0,()))).1,(List.getD v.2.2.2.2 (Int.toNat (w64 (v.1 - (1:Int)))) (0,(0,()))).2.1,())) (Int.toNat (w64 (v.1 - (1:Int)))) ((List.getD v.2.2.2.2 (Int.toNat v.1) (0,(0,()))).1,(List.getD v.2.2.2.2 (Int.toNat v.1) (0,(0,()))).2.1,())))
 (g0 (w64 (v.2.2.1 + (1:Int)),v.2.2.2.1,v.2.1,v.2.2.2.2)))
 (g0 (w64 (v.2.2.1 + (1:Int)),v.2.2.2.1,v.2.1,v.2.2.2.2))
def znT (Z:Nat) (g0:zaH → zA) (g1:zdv → zA):zdv → zA:=zdx Z g0 g1
theorem zBd (Z:Nat) (G):zV.lp (zae Z) 1 Z G (endX zaG zW) 1 zdw = iter (znT Z (fun v => G 0 (zau v).1 (zau v).2)) Z:=C.lp_iter fun g v =>
 (show run (zae Z) 1 Z (zV.bdAt 1) (zdw v).1 (zdw v).2 (loopK 1 (zV.nmAt 1) g (zV.contAt (zae Z) 1 Z G 0 1 (endX zaG zW))) = zdx Z (fun v => G 0 (zau v).1 (zau v).2) (fun v => g (zdw v).1 (zdw v).2) v by kernel_rfl)
def zbk (Z:Nat) (X1:zdv → zA) (g0:zaH → zA) (v:zaH):zA :=
 cond (decide (v.1 < v.2.1))
 (X1 (v.1,v.2.2.1,v.1,v.2.1,v.2.2.2))
 (some ((v.2.2.2,())))
def zjX (Z:Nat) (g0:zaH → zA):zaH → zA:=zbk Z (iter (znT Z g0) Z) g0
theorem zBe (Z:Nat) (G):zV.lp (zae Z) 1 Z G (endX zaG zW) 0 zau = iter (zjX Z) Z:=C.lp_iter fun g v =>
 (show run (zae Z) 1 Z (zV.bdAt 0) (zau v).1 (zau v).2 (loopK 1 (zV.nmAt 0) g (zV.contAt (zae Z) 1 Z G 0 0 (endX zaG zW))) = zbk Z (zV.lp (zae Z) 1 Z (fun m => bif Nat.beq m 0 then g else G m) (endX zaG zW) 1 zdw) (fun v => g (zau v).1 (zau v).2) v by kernel_rfl).trans (by rw [zBd]; rfl)
def zsp (Z:Nat) (X0:zaH → zA) (d0:LP) (x0:Int) (x1:Int):zA :=
 X0 (w64 (x0 + (1:Int)),x1,x0,d0)
def zgf (Z:Nat) (z:(LP × (Unit × (Int × (Int × Unit))))):zA:=zsp Z (iter (zjX Z) Z) z.1 z.2.2.1 z.2.2.2.1
theorem zBf (Z:Nat) (xa:zW.rt.T) (xd:zW.D.T):zW.go (zae Z) Z zV zaG xa xd = zgf Z (zW.xb (xa,xd)) :=
 (show zW.go (zae Z) Z zV zaG xa xd = zsp Z (zV.lp (zae Z) 1 Z (fun _ _ _ => none) (endX zaG zW) 0 zau) xa xd.1 xd.2.1 by kernel_rfl).trans (by rw [zBe]; rfl)
abbrev zjY (Z:Nat):LE:=⟨zW,zgf Z⟩
theorem zsq (Z:Nat):EntryOK Tryz.prog 239 (zjY Z).te:=okF (T:=zae Z) (fn:=Tryz.f239) (le:=zjY Z) (frz:=[]) (ann:=zso) (cuts:=[]) (rv:=zaG) (TabOK.of (entCons (zsj Z) (entCons (zsk Z) entNil)) (methNil)) mixed (by kernel_rfl) (by kernel_rfl) (by kernel_rfl) (fun _ => rfl) (fun _ => rfl) (fun xa xd y h => ⟨Z,(zBf Z xa xd).trans h⟩)
abbrev zcb:=Option (LP × Unit)
def zgg (Z:Nat):Tab:=Tab.of [(239,(zjW Z).te),(239,(zjY Z).te)] []
def zsr:List Norm:=[⟨[2,1,0,4,3,10,11],[],[],[]⟩]
noncomputable def zjZ:C:=irOf Tryz.prog Tryz.f231 [] zsr []
def zgh:List (Nat × Option (Nat × Bool)):=[]
abbrev zBg:Sx:=.dat I6 (.dat I6 (.dat I6 (.fnc 217 .nil)))
abbrev zBh:Sx:=.nil
abbrev zbl:LF:=.slc KP zBg zBh false
abbrev zdy:=(Int) × (Int) × (Int) × (Bool) × (Bool) × LP
def zss (v:zdy):Env × Heap:=([(2,SV.int .i64 v.1),(1,SV.int .i64 v.2.1),(0,SV.own 0),(4,SV.fn (Fn.func 217) [] []),(3,SV.int .i64 v.2.2.1),(10,SV.bool v.2.2.2.1),(11,SV.bool v.2.2.2.2.1)],[Blk.arr KP v.2.2.2.2.2 0])
def znU (Z:Nat) (g0:zdy → zcb) (v:zdy):zcb :=
 cond (decide (w64 (v.1 - v.2.1) ≤ (12:Int)))
 (Option.bind (zge Z (v.2.2.2.2.2,(),v.2.1,v.1,())) fun y_2 =>
 some ((y_2.1,())))
 (cond (v.2.2.1 == (0:Int))
 (none)
 (cond (!v.2.2.2.1)
 (none)
 (none)))
def znV (Z:Nat) (g0:zdy → zcb):zdy → zcb:=znU Z g0
theorem zBi (Z:Nat) (G):zjZ.lp (zgg Z) 1 Z G (endX zgh zbl) 0 zss = iter (znV Z) Z:=C.lp_iter fun g v => by kernel_rfl
def zst (Z:Nat) (X0:zdy → zcb) (d0:LP) (x0:Int) (x1:Int) (x2:Int):zcb :=
 X0 (x1,x0,x2,true,true,d0)
def zj0 (Z:Nat) (z:(LP × (Unit × (Int × (Int × (Int × Unit)))))):zcb:=zst Z (iter (znV Z) Z) z.1 z.2.2.1 z.2.2.2.1 z.2.2.2.2.1
theorem zBj (Z:Nat) (xa:zbl.rt.T) (xd:zbl.D.T):zbl.go (zgg Z) Z zjZ zgh xa xd = zj0 Z (zbl.xb (xa,xd)) :=
 (show zbl.go (zgg Z) Z zjZ zgh xa xd = zst Z (zjZ.lp (zgg Z) 1 Z (fun _ _ _ => none) (endX zgh zbl) 0 zss) xa xd.1 xd.2.1 xd.2.2.1 by kernel_rfl).trans (by rw [zBi]; rfl)
abbrev zsu (Z:Nat):LE:=⟨zbl,zj0 Z⟩
theorem zsv (Z:Nat):EntryOK Tryz.prog 231 (zsu Z).te:=okF (T:=zgg Z) (fn:=Tryz.f231) (le:=zsu Z) (frz:=[]) (ann:=zsr) (cuts:=[]) (rv:=zgh) (TabOK.of (entCons (zsn Z) (entCons (zsq Z) entNil)) (methNil)) mixed (by kernel_rfl) (by kernel_rfl) (by kernel_rfl) (fun _ => rfl) (fun _ => rfl) (fun xa xd y h => ⟨Z,(zBj Z xa xd).trans h⟩)
abbrev zcc:=Option (LP × Unit)
def zgi (Z:Nat):Tab:=Tab.of [(239,(zjW Z).te),(239,(zjY Z).te)] []
def zsw:List Norm:=[⟨[2,1,0,4,3,10,11],[],[],[]⟩]
noncomputable def zj1:C:=irOf Tryz.prog Tryz.f231 [] zsw []
def zgj:List (Nat × Option (Nat × Bool)):=[]
abbrev zBk:Sx:=.dat I6 (.dat I6 (.dat I6 (.fnc 218 .nil)))
abbrev zBl:Sx:=.nil
abbrev zbm:LF:=.slc KP zBk zBl false
abbrev zdz:=(Int) × (Int) × (Int) × (Bool) × (Bool) × LP
def zsx (v:zdz):Env × Heap:=([(2,SV.int .i64 v.1),(1,SV.int .i64 v.2.1),(0,SV.own 0),(4,SV.fn (Fn.func 218) [] []),(3,SV.int .i64 v.2.2.1),(10,SV.bool v.2.2.2.1),(11,SV.bool v.2.2.2.2.1)],[Blk.arr KP v.2.2.2.2.2 0])
def znW (Z:Nat) (g0:zdz → zcc) (v:zdz):zcc :=
 cond (decide (w64 (v.1 - v.2.1) ≤ (12:Int)))
 (Option.bind (zgf Z (v.2.2.2.2.2,(),v.2.1,v.1,())) fun y_2 =>
 some ((y_2.1,())))
 (cond (v.2.2.1 == (0:Int))
 (none)
 (cond (!v.2.2.2.1)
 (none)
 (none)))
def znX (Z:Nat) (g0:zdz → zcc):zdz → zcc:=znW Z g0
theorem zBm (Z:Nat) (G):zj1.lp (zgi Z) 1 Z G (endX zgj zbm) 0 zsx = iter (znX Z) Z:=C.lp_iter fun g v => by kernel_rfl
def zsy (Z:Nat) (X0:zdz → zcc) (d0:LP) (x0:Int) (x1:Int) (x2:Int):zcc :=
 X0 (x1,x0,x2,true,true,d0)
def zj2 (Z:Nat) (z:(LP × (Unit × (Int × (Int × (Int × Unit)))))):zcc:=zsy Z (iter (znX Z) Z) z.1 z.2.2.1 z.2.2.2.1 z.2.2.2.2.1
theorem zBn (Z:Nat) (xa:zbm.rt.T) (xd:zbm.D.T):zbm.go (zgi Z) Z zj1 zgj xa xd = zj2 Z (zbm.xb (xa,xd)) :=
 (show zbm.go (zgi Z) Z zj1 zgj xa xd = zsy Z (zj1.lp (zgi Z) 1 Z (fun _ _ _ => none) (endX zgj zbm) 0 zsx) xa xd.1 xd.2.1 xd.2.2.1 by kernel_rfl).trans (by rw [zBm]; rfl)
abbrev zsz (Z:Nat):LE:=⟨zbm,zj2 Z⟩
theorem zsA (Z:Nat):EntryOK Tryz.prog 231 (zsz Z).te:=okF (T:=zgi Z) (fn:=Tryz.f231) (le:=zsz Z) (frz:=[]) (ann:=zsw) (cuts:=[]) (rv:=zgj) (TabOK.of (entCons (zsn Z) (entCons (zsq Z) entNil)) (methNil)) mixed (by kernel_rfl) (by kernel_rfl) (by kernel_rfl) (fun _ => rfl) (fun _ => rfl) (fun xa xd y h => ⟨Z,(zBn Z xa xd).trans h⟩)
def zBo (Z:Nat) (x0:Int):Option ((Int × Unit) × Unit) :=
 cond (decide (x0 ≥ (65536:Int)))
 (cond (decide (Int.fdiv x0 (2 ^ min (Int.toNat (16:Int)) (IntKind.bits IntKind.u32)) ≥ (256:Int)))
 (tst (decide (0 ≤ IntKind.wrap IntKind.u8 (Int.fdiv (Int.fdiv x0 (2 ^ min (Int.toNat (16:Int)) (IntKind.bits IntKind.u32))) (2 ^ min (Int.toNat (8:Int)) (IntKind.bits IntKind.u32))))) <|
 tst (decide (IntKind.wrap IntKind.u8 (Int.fdiv (Int.fdiv x0 (2 ^ min (Int.toNat (16:Int)) (IntKind.bits IntKind.u32))) (2 ^ min (Int.toNat (8:Int)) (IntKind.bits IntKind.u32))) < (zz 256))) <|
 some (((w64 (w64 ((16:Int) + (8:Int)) + w64 (zz (List.getD [0,1,2,2,3,3,3,3,4,4,4,4,4,4,4,4,5,5,5,5,5,5,5,5,5,5,5,5,5,5,5,5,6,6,6,6,6,6,6,6,6,6,6,6,6,6,6,6,6,6,6,6,6,6,6,6,6,6,6,6,6,6,6,6,7,7,7,7,7,7,7,7,7,7,7,7,7,7,7,7,7,7,7,7,7,7,7,7,7,7,7,7,7,7,7,7,7,7,7,7,7,7,7,7,7,7,7,7,7,7,7,7,7,7,7,7,7,7,7,7,7,7,7,7,7,7,7,7,8,8,8,8,8,8,8,8,8,8,8,8,8,8,8,8,8,8,8,8,8,8,8,8,8,8,8,8,8,8,8,8,8,8,8,8,8,8,8,8,8,8,8,8,8,8,8,8,8,8,8,8,8,8,8,8,8,8,8,8,8,8,8,8,8,8,8,8,8,8,8,8,8,8,8,8,8,8,8,8,8,8,8,8,8,8,8,8,8,8,8,8,8,8,8,8,8,8,8,8,8,8,8,8,8,8,8,8,8,8,8,8,8,8,8,8,8,8,8,8,8,8,8,8,8,8,8,8] (Int.toNat (IntKind.wrap IntKind.u8 (Int.fdiv (Int.fdiv x0 (2 ^ min (Int.toNat (16:Int)) (IntKind.bits IntKind.u32))) (2 ^ min (Int.toNat (8:Int)) (IntKind.bits IntKind.u32))))) 0))),()),())))
 (tst (decide (0 ≤ IntKind.wrap IntKind.u8 (Int.fdiv x0 (2 ^ min (Int.toNat (16:Int)) (IntKind.bits IntKind.u32))))) <|
 tst (decide (IntKind.wrap IntKind.u8 (Int.fdiv x0 (2 ^ min (Int.toNat (16:Int)) (IntKind.bits IntKind.u32))) < (zz 256))) <|
 some (((w64 ((16:Int) + w64 (zz (List.getD [0,1,2,2,3,3,3,3,4,4,4,4,4,4,4,4,5,5,5,5,5,5,5,5,5,5,5,5,5,5,5,5,6,6,6,6,6,6,6,6,6,6,6,6,6,6,6,6,6,6,6,6,6,6,6,6,6,6,6,6,6,6,6,6,7,7,7,7,7,7,7,7,7,7,7,7,7,7,7,7,7,7,7,7,7,7,7,7,7,7,7,7,7,7,7,7,7,7,7,7,7,7,7,7,7,7,7,7,7,7,7,7,7,7,7,7,7,7,7,7,7,7,7,7,7,7,7,7,8,8,8,8,8,8,8,8,8,8,8,8,8,8,8,8,8,8,8,8,8,8,8,8,8,8,8,8,8,8,8,8,8,8,8,8,8,8,8,8,8,8,8,8,8,8,8,8,8,8,8,8,8,8,8,8,8,8,8,8,8,8,8,8,8,8,8,8,8,8,8,8,8,8,8,8,8,8,8,8,8,8,8,8,8,8,8,8,8,8,8,8,8,8,8,8,8,8,8,8,8,8,8,8,8,8,8,8,8,8,8,8,8,8,8,8,8,8,8,8,8,8,8,8,8,8,8,8] (Int.toNat (IntKind.wrap IntKind.u8 (Int.fdiv x0 (2 ^ min (Int.toNat (16:Int)) (IntKind.bits IntKind.u32))))) 0))),()),()))))
 (cond (decide (x0 ≥ (256:Int)))
 (tst (decide (0 ≤ IntKind.wrap IntKind.u8 (Int.fdiv x0 (2 ^ min (Int.toNat (8:Int)) (IntKind.bits IntKind.u32))))) <|
 tst (decide (IntKind.wrap IntKind.u8 (Int.fdiv x0 (2 ^ min (Int.toNat (8:Int)) (IntKind.bits IntKind.u32))) < (zz 256))) <|
 some (((w64 (w64 ((0:Int) + (8:Int)) + w64 (zz (List.getD [0,1,2,2,3,3,3,3,4,4,4,4,4,4,4,4,5,5,5,5,5,5,5,5,5,5,5,5,5,5,5,5,6,6,6,6,6,6,6,6,6,6,6,6,6,6,6,6,6,6,6,6,6,6,6,6,6,6,6,6,6,6,6,6,7,7,7,7,7,7,7,7,7,7,7,7,7,7,7,7,7,7,7,7,7,7,7,7,7,7,7,7,7,7,7,7,7,7,7,7,7,7,7,7,7,7,7,7,7,7,7,7,7,7,7,7,7,7,7,7,7,7,7,7,7,7,7,7,8,8,8,8,8,8,8,8,8,8,8,8,8,8,8,8,8,8,8,8,8,8,8,8,8,8,8,8,8,8,8,8,8,8,8,8,8,8,8,8,8,8,8,8,8,8,8,8,8,8,8,8,8,8,8,8,8,8,8,8,8,8,8,8,8,8,8,8,8,8,8,8,8,8,8,8,8,8,8,8,8,8,8,8,8,8,8,8,8,8,8,8,8,8,8,8,8,8,8,8,8,8,8,8,8,8,8,8,8,8,8,8,8,8,8,8,8,8,8,8,8,8,8,8,8,8,8,8] (Int.toNat (IntKind.wrap IntKind.u8 (Int.fdiv x0 (2 ^ min (Int.toNat (8:Int)) (IntKind.bits IntKind.u32))))) 0))),()),())))
 (tst (decide (0 ≤ IntKind.wrap IntKind.u8 x0)) <|
 tst (decide (IntKind.wrap IntKind.u8 x0 < (zz 256))) <|
 some (((w64 ((0:Int) + w64 (zz (List.getD [0,1,2,2,3,3,3,3,4,4,4,4,4,4,4,4,5,5,5,5,5,5,5,5,5,5,5,5,5,5,5,5,6,6,6,6,6,6,6,6,6,6,6,6,6,6,6,6,6,6,6,6,6,6,6,6,6,6,6,6,6,6,6,6,7,7,7,7,7,7,7,7,7,7,7,7,7,7,7,7,7,7,7,7,7,7,7,7,7,7,7,7,7,7,7,7,7,7,7,7,7,7,7,7,7,7,7,7,7,7,7,7,7,7,7,7,7,7,7,7,7,7,7,7,7,7,7,7,8,8,8,8,8,8,8,8,8,8,8,8,8,8,8,8,8,8,8,8,8,8,8,8,8,8,8,8,8,8,8,8,8,8,8,8,8,8,8,8,8,8,8,8,8,8,8,8,8,8,8,8,8,8,8,8,8,8,8,8,8,8,8,8,8,8,8,8,8,8,8,8,8,8,8,8,8,8,8,8,8,8,8,8,8,8,8,8,8,8,8,8,8,8,8,8,8,8,8,8,8,8,8,8,8,8,8,8,8,8,8,8,8,8,8,8,8,8,8,8,8,8,8,8,8,8,8,8] (Int.toNat (IntKind.wrap IntKind.u8 x0)) 0))),()),()))))
def zBp (Z:Nat) (z:((Int × Unit) × Unit)):Option ((Int × Unit) × Unit):=zBo Z z.1.1
abbrev zBq (Z:Nat):LE:=⟨.pure (.grp (.dat (Kd.int IntKind.u32) .nil) .nil) (.grp (.dat I6 .nil) .nil) true,zBp Z⟩
theorem zBr (Z:Nat):EntryOK Tryz.prog 247 (zBq Z).te:=okS (fn:=Tryz.f247) (frz:=[]) (ann:=[]) (cuts:=[]) (rv:=[(2,none)]) Z (TabOK.of (entNil) (methNil)) mixed (by kernel_rfl) (by kernel_rfl) (by kernel_rfl) (fun _ => rfl) (fun _ => rfl) (fun _ _ => by kernel_rfl)
def zBs (Z:Nat) (x0:Int):Option ((Int × Unit) × Unit) :=
 cond (decide (x0 ≥ (4294967296:Int)))
 (cond (decide (Int.fdiv x0 (2 ^ min (Int.toNat (32:Int)) (IntKind.bits IntKind.u64)) ≥ (65536:Int)))
 (cond (decide (Int.fdiv (Int.fdiv x0 (2 ^ min (Int.toNat (32:Int)) (IntKind.bits IntKind.u64))) (2 ^ min (Int.toNat (16:Int)) (IntKind.bits IntKind.u64)) ≥ (256:Int)))
 (tst (decide (0 ≤ IntKind.wrap IntKind.u8 (Int.fdiv (Int.fdiv (Int.fdiv x0 (2 ^ min (Int.toNat (32:Int)) (IntKind.bits IntKind.u64))) (2 ^ min (Int.toNat (16:Int)) (IntKind.bits IntKind.u64))) (2 ^ min (Int.toNat (8:Int)) (IntKind.bits IntKind.u64))))) <|
 tst (decide (IntKind.wrap IntKind.u8 (Int.fdiv (Int.fdiv (Int.fdiv x0 (2 ^ min (Int.toNat (32:Int)) (IntKind.bits IntKind.u64))) (2 ^ min (Int.toNat (16:Int)) (IntKind.bits IntKind.u64))) (2 ^ min (Int.toNat (8:Int)) (IntKind.bits IntKind.u64))) < (zz 256))) <|
 some (((w64 (w64 (w64 ((32:Int) + (16:Int)) + (8:Int)) + w64 (zz (List.getD [0,1,2,2,3,3,3,3,4,4,4,4,4,4,4,4,5,5,5,5,5,5,5,5,5,5,5,5,5,5,5,5,6,6,6,6,6,6,6,6,6,6,6,6,6,6,6,6,6,6,6,6,6,6,6,6,6,6,6,6,6,6,6,6,7,7,7,7,7,7,7,7,7,7,7,7,7,7,7,7,7,7,7,7,7,7,7,7,7,7,7,7,7,7,7,7,7,7,7,7,7,7,7,7,7,7,7,7,7,7,7,7,7,7,7,7,7,7,7,7,7,7,7,7,7,7,7,7,8,8,8,8,8,8,8,8,8,8,8,8,8,8,8,8,8,8,8,8,8,8,8,8,8,8,8,8,8,8,8,8,8,8,8,8,8,8,8,8,8,8,8,8,8,8,8,8,8,8,8,8,8,8,8,8,8,8,8,8,8,8,8,8,8,8,8,8,8,8,8,8,8,8,8,8,8,8,8,8,8,8,8,8,8,8,8,8,8,8,8,8,8,8,8,8,8,8,8,8,8,8,8,8,8,8,8,8,8,8,8,8,8,8,8,8,8,8,8,8,8,8,8,8,8,8,8,8] (Int.toNat (IntKind.wrap IntKind.u8 (Int.fdiv (Int.fdiv (Int.fdiv x0 (2 ^ min (Int.toNat (32:Int)) (IntKind.bits IntKind.u64))) (2 ^ min (Int.toNat (16:Int)) (IntKind.bits IntKind.u64))) (2 ^ min (Int.toNat (8:Int)) (IntKind.bits IntKind.u64))))) 0))),()),())))
 (tst (decide (0 ≤ IntKind.wrap IntKind.u8 (Int.fdiv (Int.fdiv x0 (2 ^ min (Int.toNat (32:Int)) (IntKind.bits IntKind.u64))) (2 ^ min (Int.toNat (16:Int)) (IntKind.bits IntKind.u64))))) <|
 tst (decide (IntKind.wrap IntKind.u8 (Int.fdiv (Int.fdiv x0 (2 ^ min (Int.toNat (32:Int)) (IntKind.bits IntKind.u64))) (2 ^ min (Int.toNat (16:Int)) (IntKind.bits IntKind.u64))) < (zz 256))) <|
 some (((w64 (w64 ((32:Int) + (16:Int)) + w64 (zz (List.getD [0,1,2,2,3,3,3,3,4,4,4,4,4,4,4,4,5,5,5,5,5,5,5,5,5,5,5,5,5,5,5,5,6,6,6,6,6,6,6,6,6,6,6,6,6,6,6,6,6,6,6,6,6,6,6,6,6,6,6,6,6,6,6,6,7,7,7,7,7,7,7,7,7,7,7,7,7,7,7,7,7,7,7,7,7,7,7,7,7,7,7,7,7,7,7,7,7,7,7,7,7,7,7,7,7,7,7,7,7,7,7,7,7,7,7,7,7,7,7,7,7,7,7,7,7,7,7,7,8,8,8,8,8,8,8,8,8,8,8,8,8,8,8,8,8,8,8,8,8,8,8,8,8,8,8,8,8,8,8,8,8,8,8,8,8,8,8,8,8,8,8,8,8,8,8,8,8,8,8,8,8,8,8,8,8,8,8,8,8,8,8,8,8,8,8,8,8,8,8,8,8,8,8,8,8,8,8,8,8,8,8,8,8,8,8,8,8,8,8,8,8,8,8,8,8,8,8,8,8,8,8,8,8,8,8,8,8,8,8,8,8,8,8,8,8,8,8,8,8,8,8,8,8,8,8,8] (Int.toNat (IntKind.wrap IntKind.u8 (Int.fdiv (Int.fdiv x0 (2 ^ min (Int.toNat (32:Int)) (IntKind.bits IntKind.u64))) (2 ^ min (Int.toNat (16:Int)) (IntKind.bits IntKind.u64))))) 0))),()),()))))
 (cond (decide (Int.fdiv x0 (2 ^ min (Int.toNat (32:Int)) (IntKind.bits IntKind.u64)) ≥ (256:Int)))
 (tst (decide (0 ≤ IntKind.wrap IntKind.u8 (Int.fdiv (Int.fdiv x0 (2 ^ min (Int.toNat (32:Int)) (IntKind.bits IntKind.u64))) (2 ^ min (Int.toNat (8:Int)) (IntKind.bits IntKind.u64))))) <|
 tst (decide (IntKind.wrap IntKind.u8 (Int.fdiv (Int.fdiv x0 (2 ^ min (Int.toNat (32:Int)) (IntKind.bits IntKind.u64))) (2 ^ min (Int.toNat (8:Int)) (IntKind.bits IntKind.u64))) < (zz 256))) <|
 some (((w64 (w64 ((32:Int) + (8:Int)) + w64 (zz (List.getD [0,1,2,2,3,3,3,3,4,4,4,4,4,4,4,4,5,5,5,5,5,5,5,5,5,5,5,5,5,5,5,5,6,6,6,6,6,6,6,6,6,6,6,6,6,6,6,6,6,6,6,6,6,6,6,6,6,6,6,6,6,6,6,6,7,7,7,7,7,7,7,7,7,7,7,7,7,7,7,7,7,7,7,7,7,7,7,7,7,7,7,7,7,7,7,7,7,7,7,7,7,7,7,7,7,7,7,7,7,7,7,7,7,7,7,7,7,7,7,7,7,7,7,7,7,7,7,7,8,8,8,8,8,8,8,8,8,8,8,8,8,8,8,8,8,8,8,8,8,8,8,8,8,8,8,8,8,8,8,8,8,8,8,8,8,8,8,8,8,8,8,8,8,8,8,8,8,8,8,8,8,8,8,8,8,8,8,8,8,8,8,8,8,8,8,8,8,8,8,8,8,8,8,8,8,8,8,8,8,8,8,8,8,8,8,8,8,8,8,8,8,8,8,8,8,8,8,8,8,8,8,8,8,8,8,8,8,8,8,8,8,8,8,8,8,8,8,8,8,8,8,8,8,8,8,8] (Int.toNat (IntKind.wrap IntKind.u8 (Int.fdiv (Int.fdiv x0 (2 ^ min (Int.toNat (32:Int)) (IntKind.bits IntKind.u64))) (2 ^ min (Int.toNat (8:Int)) (IntKind.bits IntKind.u64))))) 0))),()),())))
 (tst (decide (0 ≤ IntKind.wrap IntKind.u8 (Int.fdiv x0 (2 ^ min (Int.toNat (32:Int)) (IntKind.bits IntKind.u64))))) <|
 tst (decide (IntKind.wrap IntKind.u8 (Int.fdiv x0 (2 ^ min (Int.toNat (32:Int)) (IntKind.bits IntKind.u64))) < (zz 256))) <|
 some (((w64 ((32:Int) + w64 (zz (List.getD [0,1,2,2,3,3,3,3,4,4,4,4,4,4,4,4,5,5,5,5,5,5,5,5,5,5,5,5,5,5,5,5,6,6,6,6,6,6,6,6,6,6,6,6,6,6,6,6,6,6,6,6,6,6,6,6,6,6,6,6,6,6,6,6,7,7,7,7,7,7,7,7,7,7,7,7,7,7,7,7,7,7,7,7,7,7,7,7,7,7,7,7,7,7,7,7,7,7,7,7,7,7,7,7,7,7,7,7,7,7,7,7,7,7,7,7,7,7,7,7,7,7,7,7,7,7,7,7,8,8,8,8,8,8,8,8,8,8,8,8,8,8,8,8,8,8,8,8,8,8,8,8,8,8,8,8,8,8,8,8,8,8,8,8,8,8,8,8,8,8,8,8,8,8,8,8,8,8,8,8,8,8,8,8,8,8,8,8,8,8,8,8,8,8,8,8,8,8,8,8,8,8,8,8,8,8,8,8,8,8,8,8,8,8,8,8,8,8,8,8,8,8,8,8,8,8,8,8,8,8,8,8,8,8,8,8,8,8,8,8,8,8,8,8,8,8,8,8,8,8,8,8,8,8,8,8] (Int.toNat (IntKind.wrap IntKind.u8 (Int.fdiv x0 (2 ^ min (Int.toNat (32:Int)) (IntKind.bits IntKind.u64))))) 0))),()),())))))
 (cond (decide (x0 ≥ (65536:Int)))
 (cond (decide (Int.fdiv x0 (2 ^ min (Int.toNat (16:Int)) (IntKind.bits IntKind.u64)) ≥ (256:Int)))
 (tst (decide (0 ≤ IntKind.wrap IntKind.u8 (Int.fdiv (Int.fdiv x0 (2 ^ min (Int.toNat (16:Int)) (IntKind.bits IntKind.u64))) (2 ^ min (Int.toNat (8:Int)) (IntKind.bits IntKind.u64))))) <|
 tst (decide (IntKind.wrap IntKind.u8 (Int.fdiv (Int.fdiv x0 (2 ^ min (Int.toNat (16:Int)) (IntKind.bits IntKind.u64))) (2 ^ min (Int.toNat (8:Int)) (IntKind.bits IntKind.u64))) < (zz 256))) <|
 some (((w64 (w64 (w64 ((0:Int) + (16:Int)) + (8:Int)) + w64 (zz (List.getD [0,1,2,2,3,3,3,3,4,4,4,4,4,4,4,4,5,5,5,5,5,5,5,5,5,5,5,5,5,5,5,5,6,6,6,6,6,6,6,6,6,6,6,6,6,6,6,6,6,6,6,6,6,6,6,6,6,6,6,6,6,6,6,6,7,7,7,7,7,7,7,7,7,7,7,7,7,7,7,7,7,7,7,7,7,7,7,7,7,7,7,7,7,7,7,7,7,7,7,7,7,7,7,7,7,7,7,7,7,7,7,7,7,7,7,7,7,7,7,7,7,7,7,7,7,7,7,7,8,8,8,8,8,8,8,8,8,8,8,8,8,8,8,8,8,8,8,8,8,8,8,8,8,8,8,8,8,8,8,8,8,8,8,8,8,8,8,8,8,8,8,8,8,8,8,8,8,8,8,8,8,8,8,8,8,8,8,8,8,8,8,8,8,8,8,8,8,8,8,8,8,8,8,8,8,8,8,8,8,8,8,8,8,8,8,8,8,8,8,8,8,8,8,8,8,8,8,8,8,8,8,8,8,8,8,8,8,8,8,8,8,8,8,8,8,8,8,8,8,8,8,8,8,8,8,8] (Int.toNat (IntKind.wrap IntKind.u8 (Int.fdiv (Int.fdiv x0 (2 ^ min (Int.toNat (16:Int)) (IntKind.bits IntKind.u64))) (2 ^ min (Int.toNat (8:Int)) (IntKind.bits IntKind.u64))))) 0))),()),())))
 (tst (decide (0 ≤ IntKind.wrap IntKind.u8 (Int.fdiv x0 (2 ^ min (Int.toNat (16:Int)) (IntKind.bits IntKind.u64))))) <|
 tst (decide (IntKind.wrap IntKind.u8 (Int.fdiv x0 (2 ^ min (Int.toNat (16:Int)) (IntKind.bits IntKind.u64))) < (zz 256))) <|
 some (((w64 (w64 ((0:Int) + (16:Int)) + w64 (zz (List.getD [0,1,2,2,3,3,3,3,4,4,4,4,4,4,4,4,5,5,5,5,5,5,5,5,5,5,5,5,5,5,5,5,6,6,6,6,6,6,6,6,6,6,6,6,6,6,6,6,6,6,6,6,6,6,6,6,6,6,6,6,6,6,6,6,7,7,7,7,7,7,7,7,7,7,7,7,7,7,7,7,7,7,7,7,7,7,7,7,7,7,7,7,7,7,7,7,7,7,7,7,7,7,7,7,7,7,7,7,7,7,7,7,7,7,7,7,7,7,7,7,7,7,7,7,7,7,7,7,8,8,8,8,8,8,8,8,8,8,8,8,8,8,8,8,8,8,8,8,8,8,8,8,8,8,8,8,8,8,8,8,8,8,8,8,8,8,8,8,8,8,8,8,8,8,8,8,8,8,8,8,8,8,8,8,8,8,8,8,8,8,8,8,8,8,8,8,8,8,8,8,8,8,8,8,8,8,8,8,8,8,8,8,8,8,8,8,8,8,8,8,8,8,8,8,8,8,8,8,8,8,8,8,8,8,8,8,8,8,8,8,8,8,8,8,8,8,8,8,8,8,8,8,8,8,8,8] (Int.toNat (IntKind.wrap IntKind.u8 (Int.fdiv x0 (2 ^ min (Int.toNat (16:Int)) (IntKind.bits IntKind.u64))))) 0))),()),()))))
 (cond (decide (x0 ≥ (256:Int)))
 (tst (decide (0 ≤ IntKind.wrap IntKind.u8 (Int.fdiv x0 (2 ^ min (Int.toNat (8:Int)) (IntKind.bits IntKind.u64))))) <|
 tst (decide (IntKind.wrap IntKind.u8 (Int.fdiv x0 (2 ^ min (Int.toNat (8:Int)) (IntKind.bits IntKind.u64))) < (zz 256))) <|
 some (((w64 (w64 ((0:Int) + (8:Int)) + w64 (zz (List.getD [0,1,2,2,3,3,3,3,4,4,4,4,4,4,4,4,5,5,5,5,5,5,5,5,5,5,5,5,5,5,5,5,6,6,6,6,6,6,6,6,6,6,6,6,6,6,6,6,6,6,6,6,6,6,6,6,6,6,6,6,6,6,6,6,7,7,7,7,7,7,7,7,7,7,7,7,7,7,7,7,7,7,7,7,7,7,7,7,7,7,7,7,7,7,7,7,7,7,7,7,7,7,7,7,7,7,7,7,7,7,7,7,7,7,7,7,7,7,7,7,7,7,7,7,7,7,7,7,8,8,8,8,8,8,8,8,8,8,8,8,8,8,8,8,8,8,8,8,8,8,8,8,8,8,8,8,8,8,8,8,8,8,8,8,8,8,8,8,8,8,8,8,8,8,8,8,8,8,8,8,8,8,8,8,8,8,8,8,8,8,8,8,8,8,8,8,8,8,8,8,8,8,8,8,8,8,8,8,8,8,8,8,8,8,8,8,8,8,8,8,8,8,8,8,8,8,8,8,8,8,8,8,8,8,8,8,8,8,8,8,8,8,8,8,8,8,8,8,8,8,8,8,8,8,8,8] (Int.toNat (IntKind.wrap IntKind.u8 (Int.fdiv x0 (2 ^ min (Int.toNat (8:Int)) (IntKind.bits IntKind.u64))))) 0))),()),())))
 (tst (decide (0 ≤ IntKind.wrap IntKind.u8 x0)) <|
 tst (decide (IntKind.wrap IntKind.u8 x0 < (zz 256))) <|
 some (((w64 ((0:Int) + w64 (zz (List.getD [0,1,2,2,3,3,3,3,4,4,4,4,4,4,4,4,5,5,5,5,5,5,5,5,5,5,5,5,5,5,5,5,6,6,6,6,6,6,6,6,6,6,6,6,6,6,6,6,6,6,6,6,6,6,6,6,6,6,6,6,6,6,6,6,7,7,7,7,7,7,7,7,7,7,7,7,7,7,7,7,7,7,7,7,7,7,7,7,7,7,7,7,7,7,7,7,7,7,7,7,7,7,7,7,7,7,7,7,7,7,7,7,7,7,7,7,7,7,7,7,7,7,7,7,7,7,7,7,8,8,8,8,8,8,8,8,8,8,8,8,8,8,8,8,8,8,8,8,8,8,8,8,8,8,8,8,8,8,8,8,8,8,8,8,8,8,8,8,8,8,8,8,8,8,8,8,8,8,8,8,8,8,8,8,8,8,8,8,8,8,8,8,8,8,8,8,8,8,8,8,8,8,8,8,8,8,8,8,8,8,8,8,8,8,8,8,8,8,8,8,8,8,8,8,8,8,8,8,8,8,8,8,8,8,8,8,8,8,8,8,8,8,8,8,8,8,8,8,8,8,8,8,8,8,8,8] (Int.toNat (IntKind.wrap IntKind.u8 x0)) 0))),()),())))))
def zsB (Z:Nat) (z:((Int × Unit) × Unit)):Option ((Int × Unit) × Unit):=zBs Z z.1.1
abbrev zBt (Z:Nat):LE:=⟨.pure (.grp (.dat (Kd.int IntKind.u64) .nil) .nil) (.grp (.dat I6 .nil) .nil) true,zsB Z⟩
theorem zBu (Z:Nat):EntryOK Tryz.prog 248 (zBt Z).te:=okS (fn:=Tryz.f248) (frz:=[]) (ann:=[]) (cuts:=[]) (rv:=[(2,none)]) Z (TabOK.of (entNil) (methNil)) mixed (by kernel_rfl) (by kernel_rfl) (by kernel_rfl) (fun _ => rfl) (fun _ => rfl) (fun _ _ => by kernel_rfl)
def zBv (Z:Nat) (x0:Int):Option ((Int × Unit) × Unit) :=
 Option.bind (zsB Z ((x0,()),())) fun y_1 =>
 some (((y_1.1.1,()),()))
def zgk (Z:Nat) (z:((Int × Unit) × Unit)):Option ((Int × Unit) × Unit):=zBv Z z.1.1
abbrev zBw (Z:Nat):LE:=⟨.pure (.grp (.dat (Kd.int IntKind.u64) .nil) .nil) (.grp (.dat I6 .nil) .nil) true,zgk Z⟩
theorem zsC (Z:Nat):EntryOK Tryz.prog 232 (zBw Z).te:=okS (fn:=Tryz.f232) (frz:=[]) (ann:=[]) (cuts:=[]) (rv:=[(2,none)]) Z (TabOK.of (entCons (zBr Z) (entCons (zBu Z) entNil)) (methNil)) mixed (by kernel_rfl) (by kernel_rfl) (by kernel_rfl) (fun _ => rfl) (fun _ => rfl) (fun _ _ => by kernel_rfl)
def znY (Z:Nat) (d0:LP):Option (LP × Unit) :=
 Option.bind (zgk Z ((IntKind.wrap IntKind.u64 (zz (List.length d0)),()),())) fun y_1 =>
 Option.bind (zj0 Z (d0,(),(0:Int),(zz (List.length d0)),y_1.1.1,())) fun y_2 =>
 some ((y_2.1,()))
def znZ (Z:Nat) (z:(LP × (Unit × Unit))):Option (LP × Unit):=znY Z z.1
abbrev zBx (Z:Nat):LE:=⟨.slc (KP) (.fnc 217 .nil) .nil false,znZ Z⟩
theorem zsD (Z:Nat):EntryOK Tryz.prog 219 (zBx Z).te:=okS (fn:=Tryz.f219) (frz:=[]) (ann:=[]) (cuts:=[]) (rv:=[]) Z (TabOK.of (entCons (zsv Z) (entCons (zsA Z) (entCons (zsC Z) entNil))) (methNil)) mixed (by kernel_rfl) (by kernel_rfl) (by kernel_rfl) (fun _ => rfl) (fun _ => rfl) (fun _ _ => by kernel_rfl)
def zn0 (Z:Nat) (d0:LP):Option (LP × Unit) :=
 Option.bind (zgk Z ((IntKind.wrap IntKind.u64 (zz (List.length d0)),()),())) fun y_1 =>
 Option.bind (zj2 Z (d0,(),(0:Int),(zz (List.length d0)),y_1.1.1,())) fun y_2 =>
 some ((y_2.1,()))
def zn1 (Z:Nat) (z:(LP × (Unit × Unit))):Option (LP × Unit):=zn0 Z z.1
abbrev zBy (Z:Nat):LE:=⟨.slc (KP) (.fnc 218 .nil) .nil false,zn1 Z⟩
theorem zsE (Z:Nat):EntryOK Tryz.prog 219 (zBy Z).te:=okS (fn:=Tryz.f219) (frz:=[]) (ann:=[]) (cuts:=[]) (rv:=[]) Z (TabOK.of (entCons (zsv Z) (entCons (zsA Z) (entCons (zsC Z) entNil))) (methNil)) mixed (by kernel_rfl) (by kernel_rfl) (by kernel_rfl) (fun _ => rfl) (fun _ => rfl) (fun _ _ => by kernel_rfl)
def zn2 (Z:Nat) (d0:LP):Option (LP × Unit) :=
 Option.bind (znZ Z (d0,(),())) fun y_1 =>
 some ((y_1.1,()))
def zn3 (Z:Nat) (z:(LP × (Unit × Unit))):Option (LP × Unit):=zn2 Z z.1
abbrev zn4 (Z:Nat):LE:=⟨.slc (KP) (.num IntKind.i64 (Int.ofNat 0) .nil) .nil false,zn3 Z⟩
theorem zsF (Z:Nat):EntryOK Tryz.prog 195 (zn4 Z).te:=okS (fn:=Tryz.f195) (frz:=[]) (ann:=[]) (cuts:=[]) (rv:=[]) Z (TabOK.of (entCons (zsD Z) (entCons (zsE Z) entNil)) (methNil)) mixed (by kernel_rfl) (by kernel_rfl) (by kernel_rfl) (fun _ => rfl) (fun _ => rfl) (fun _ _ => by kernel_rfl)
def zn5 (Z:Nat) (d0:LP):Option (LP × Unit) :=
 Option.bind (zn1 Z (d0,(),())) fun y_1 =>
 some ((y_1.1,()))
def zn6 (Z:Nat) (z:(LP × (Unit × Unit))):Option (LP × Unit):=zn5 Z z.1
abbrev zn7 (Z:Nat):LE:=⟨.slc (KP) (.num IntKind.i64 (Int.ofNat 1) .nil) .nil false,zn6 Z⟩
theorem zsG (Z:Nat):EntryOK Tryz.prog 195 (zn7 Z).te:=okS (fn:=Tryz.f195) (frz:=[]) (ann:=[]) (cuts:=[]) (rv:=[]) Z (TabOK.of (entCons (zsD Z) (entCons (zsE Z) entNil)) (methNil)) mixed (by kernel_rfl) (by kernel_rfl) (by kernel_rfl) (fun _ => rfl) (fun _ => rfl) (fun _ _ => by kernel_rfl)
abbrev zcd:=Option ((LP × (Int × (Int × Unit))) × Unit)
def zgl (Z:Nat):Tab:=Tab.of [(114,(zsh Z).te),(195,(zn4 Z).te),(195,(zn7 Z).te)] []
def zsH:List Norm:=[⟨[26,25,24,4,5,1,2],[],[],[]⟩]
noncomputable def zj3:C:=irOf Tryz.prog Tryz.f182 [] zsH []
def zgm:List (Nat × Option (Nat × Bool)):=[(2,some (3,true))]
abbrev zBz:Sx:=.agg (.dat (Kd.list KP) (.dat I6 (.dat I6 .nil))) .nil
abbrev zBA:Sx:=.agg (.dat (Kd.list KP) (.dat I6 (.dat I6 .nil))) .nil
abbrev zbn:LF:=.pure zBz zBA false
abbrev zdA:=(Int) × (Int) × LP × (Int) × LP × LP × (Int) × (Int) × (Int) × (Int)
def zsI (v:zdA):Env × Heap:=([(26,SV.int .i64 v.1),(25,SV.int .i64 v.2.1),(24,SV.es KP v.2.2.1),(4,SV.int .i64 v.2.2.2.1),(5,SV.own 0),(1,SV.ptr 1 0),(2,SV.ptr 2 0)],[Blk.arr KP v.2.2.2.2.1 0,Blk.cells [SV.es KP v.2.2.2.2.2.1,SV.int .i64 v.2.2.2.2.2.2.1,SV.int .i64 v.2.2.2.2.2.2.2.1] 0 3,Blk.cells [SV.nils,SV.int .i64 v.2.2.2.2.2.2.2.2.1,SV.int .i64 v.2.2.2.2.2.2.2.2.2] 0 3])
def zgn (Z:Nat) (g0:zdA → zcd) (v:zdA):zcd :=
 cond (decide (v.1 < v.2.1))
 (tst (decide (0 ≤ v.1)) <|
 tst (decide (v.1 < (zz (List.length v.2.2.1)))) <|
 cond (decide ((List.getD v.2.2.1 (Int.toNat v.1) (0,(0,()))).2.1 > v.2.2.2.1))
 (tst (decide (List.length v.2.2.2.2.1 + 1 < LIM)) <|
 g0 (w64 (v.1 + (1:Int)),v.2.1,v.2.2.1,v.2.2.2.1,v.2.2.2.2.1 ++ [((List.getD v.2.2.1 (Int.toNat v.1) (0,(0,()))).1,w64 ((List.getD v.2.2.1 (Int.toNat v.1) (0,(0,()))).2.1 - v.2.2.2.1),())],v.2.2.2.2.2.1,v.2.2.2.2.2.2.1,v.2.2.2.2.2.2.2.1,v.2.2.2.2.2.2.2.2.1,v.2.2.2.2.2.2.2.2.2))
 (g0 (w64 (v.1 + (1:Int)),v.2.1,v.2.2.1,v.2.2.2.1,v.2.2.2.2.1,v.2.2.2.2.2.1,v.2.2.2.2.2.2.1,v.2.2.2.2.2.2.2.1,v.2.2.2.2.2.2.2.2.1,v.2.2.2.2.2.2.2.2.2)))
 (some (((v.2.2.2.2.1,w64 (v.2.2.2.2.2.2.1 + v.2.2.2.1),v.2.2.2.2.2.2.2.1,()),())))
def zj4 (Z:Nat) (g0:zdA → zcd):zdA → zcd:=zgn Z g0
theorem zBB (Z:Nat) (G):zj3.lp (zgl Z) 0 Z G (endX zgm zbn) 0 zsI = iter (zj4 Z) Z:=C.lp_iter fun g v => by kernel_rfl
def zj5 (Z:Nat) (X0:zdA → zcd) (x0:LP) (x1:Int) (x2:Int):zcd :=
 cond (decide ((zz (List.length x0)) ≤ (4:Int)))
 (some (((x0,x1,x2,()),())))
 (Option.bind (znK Z ((x0,()),())) fun y_2 =>
 Option.bind (zn6 Z (y_2.1.1,(),())) fun y_3 =>
 tst (decide ((4:Int) < (zz (List.length y_3.1)))) <|
 tst (decide (Int.toNat (4:Int) < List.length y_3.1)) <|
 X0 ((0:Int),(zz (List.length x0)),x0,(List.getD y_3.1 (Int.toNat (4:Int)) (0,(0,()))).2.1,List.replicate (Int.toNat (0:Int)) (0,(0,())),x0,x1,x2,(0:Int),(0:Int)))
def zj6 (Z:Nat) (z:((LP × (Int × (Int × Unit))) × Unit)):zcd:=zj5 Z (iter (zj4 Z) Z) z.1.1 z.1.2.1 z.1.2.2.1
theorem zBC (Z:Nat) (xa:zbn.rt.T) (xd:zbn.D.T):zbn.go (zgl Z) Z zj3 zgm xa xd = zj6 Z (zbn.xb (xa,xd)) :=
 (show zbn.go (zgl Z) Z zj3 zgm xa xd = zj5 Z (zj3.lp (zgl Z) 0 Z (fun _ _ _ => none) (endX zgm zbn) 0 zsI) xd.1.1 xd.1.2.1 xd.1.2.2.1 by kernel_rfl).trans (by rw [zBB]; rfl)
abbrev zsJ (Z:Nat):LE:=⟨zbn,zj6 Z⟩
theorem zBD (Z:Nat):EntryOK Tryz.prog 182 (zsJ Z).te:=okF (T:=zgl Z) (fn:=Tryz.f182) (le:=zsJ Z) (frz:=[]) (ann:=zsH) (cuts:=[]) (rv:=zgm) (TabOK.of (entCons (zA1 Z) (entCons (zsF Z) (entCons (zsG Z) entNil))) (methNil)) mixed (by kernel_rfl) (by kernel_rfl) (by kernel_rfl) (fun _ => rfl) (fun _ => rfl) (fun xa xd y h => ⟨Z,(zBC Z xa xd).trans h⟩)
def zBE:List (Nat × Norm):=[(5,{ live:=[0],fix:=[(0,none,KP,true)] })]
def zn8 (Z:Nat) (x0:Int):Option (LP × Unit) :=
 cond (decide (x0 < (0:Int)))
 (none)
 (cond (decide (w64 (x0 - w64 (0 - (zz 0))) > (0:Int)))
 (tst (decide (0 ≤ w64 (x0 - w64 (0 - (zz 0))))) <|
 tst (decide (Int.toNat (w64 (x0 - w64 (0 - (zz 0)))) < LIM)) <|
 tst (decide ((zz 0) ≤ (zz (List.length (List.replicate (Int.toNat (w64 (x0 - w64 (0 - (zz 0))))) (Kd.dflt KP)))))) <|
 some ((List.take (Int.toNat (zz 0) - 0) (List.drop 0 (List.replicate (Int.toNat (w64 (x0 - w64 (0 - (zz 0))))) (0,(0,())))),())))
 (some (([],()))))
def zn9 (Z:Nat) (z:(Int × Unit)):Option (LP × Unit):=zn8 Z z.1
abbrev zsK (Z:Nat):LE:=⟨.pure (.nls (.dat I6 .nil)) (.own 0 KP .nil) true,zn9 Z⟩
theorem zBF (Z:Nat):EntryOK Tryz.prog 220 (zsK Z).te:=okS (fn:=Tryz.f220) (frz:=[]) (ann:=[]) (cuts:=zBE) (rv:=[(4,none)]) Z (TabOK.of (entNil) (methNil)) mixed (by kernel_rfl) (by kernel_rfl) (by kernel_rfl) (fun _ => rfl) (fun _ => rfl) (fun _ _ => by kernel_rfl)
abbrev zX:=Option ((LP × Unit) × Unit)
def zaI (Z:Nat):Tab:=Tab.of [(220,(zsK Z).te)] []
def zsL:List Norm:=[⟨[11,10,9,3,0],[],[],[]⟩,⟨[27,26,25,6],[],[],[]⟩]
noncomputable def zaJ:C:=irOf Tryz.prog Tryz.f196 [] zsL []
def zbo:List (Nat × Option (Nat × Bool)):=[(2,none)]
abbrev zBG:Sx:=.grp (.dat (Kd.list (Kd.list KP)) .nil) .nil
abbrev zBH:Sx:=.grp (.own 0 KP .nil) .nil
abbrev zaf:LF:=.pure zBG zBH true
abbrev zce:=(Int) × (Int) × (List LP) × (Int) × (List LP)
abbrev zcf:=(Int) × (Int) × (List LP) × LP
def zdB (v:zce):Env × Heap:=([(11,SV.int .i64 v.1),(10,SV.int .i64 v.2.1),(9,SV.es (Kd.list KP) v.2.2.1),(3,SV.int .i64 v.2.2.2.1),(0,SV.es (Kd.list KP) v.2.2.2.2)],[])
def zsM (v:zcf):Env × Heap:=([(27,SV.int .i64 v.1),(26,SV.int .i64 v.2.1),(25,SV.es (Kd.list KP) v.2.2.1),(6,SV.own 0)],[Blk.arr KP v.2.2.2 0])
def zgo (Z:Nat) (g1:zcf → zX) (v:zcf):zX :=
 cond (decide (v.1 < v.2.1))
 (tst (decide (0 ≤ v.1)) <|
 tst (decide (v.1 < (zz (List.length v.2.2.1)))) <|
 tst (decide (List.length v.2.2.2 + List.length (List.getD v.2.2.1 (Int.toNat v.1) []) < LIM)) <|
 g1 (w64 (v.1 + (1:Int)),v.2.1,v.2.2.1,v.2.2.2 ++ List.getD v.2.2.1 (Int.toNat v.1) []))
 (some (((v.2.2.2,()),())))
def zcg (Z:Nat) (g1:zcf → zX):zcf → zX:=zgo Z g1
theorem zBI (Z:Nat) (G):zaJ.lp (zaI Z) 0 Z G (endX zbo zaf) 1 zsM = iter (zcg Z) Z:=C.lp_iter fun g v => by kernel_rfl
def zdC (Z:Nat) (X1:zcf → zX) (g0:zce → zX) (v:zce):zX :=
 cond (decide (v.1 < v.2.1))
 (tst (decide (0 ≤ v.1)) <|
 tst (decide (v.1 < (zz (List.length v.2.2.1)))) <|
 cond (decide (w64 (v.2.2.2.1 + (zz (List.length (List.getD v.2.2.1 (Int.toNat v.1) [])))) < (0:Int)))
 (none)
 (g0 (w64 (v.1 + (1:Int)),v.2.1,v.2.2.1,w64 (v.2.2.2.1 + (zz (List.length (List.getD v.2.2.1 (Int.toNat v.1) [])))),v.2.2.2.2)))
 (Option.bind (zn9 Z (v.2.2.2.1,())) fun y_2 =>
 X1 ((0:Int),(zz (List.length v.2.2.2.2)),v.2.2.2.2,y_2.1))
def zgp (Z:Nat) (g0:zce → zX):zce → zX:=zdC Z (iter (zcg Z) Z) g0
theorem zBJ (Z:Nat) (G):zaJ.lp (zaI Z) 0 Z G (endX zbo zaf) 0 zdB = iter (zgp Z) Z:=C.lp_iter fun g v =>
 (show run (zaI Z) 0 Z (zaJ.bdAt 0) (zdB v).1 (zdB v).2 (loopK 0 (zaJ.nmAt 0) g (zaJ.contAt (zaI Z) 0 Z G 0 0 (endX zbo zaf))) = zdC Z (zaJ.lp (zaI Z) 0 Z (fun m => bif Nat.beq m 0 then g else G m) (endX zbo zaf) 1 zsM) (fun v => g (zdB v).1 (zdB v).2) v by kernel_rfl).trans (by rw [zBI]; rfl)
def zj7 (Z:Nat) (X0:zce → zX) (x0:List LP):zX :=
 X0 ((0:Int),(zz (List.length x0)),x0,(0:Int),x0)
def zj8 (Z:Nat) (z:(((List LP) × Unit) × Unit)):zX:=zj7 Z (iter (zgp Z) Z) z.1.1
theorem zBK (Z:Nat) (xa:zaf.rt.T) (xd:zaf.D.T):zaf.go (zaI Z) Z zaJ zbo xa xd = zj8 Z (zaf.xb (xa,xd)) :=
 (show zaf.go (zaI Z) Z zaJ zbo xa xd = zj7 Z (zaJ.lp (zaI Z) 0 Z (fun _ _ _ => none) (endX zbo zaf) 0 zdB) xd.1.1 by kernel_rfl).trans (by rw [zBJ]; rfl)
abbrev zoa (Z:Nat):LE:=⟨zaf,zj8 Z⟩
theorem zBL (Z:Nat):EntryOK Tryz.prog 196 (zoa Z).te:=okF (T:=zaI Z) (fn:=Tryz.f196) (le:=zoa Z) (frz:=[]) (ann:=zsL) (cuts:=[]) (rv:=zbo) (TabOK.of (entCons (zBF Z) entNil) (methNil)) mixed (by kernel_rfl) (by kernel_rfl) (by kernel_rfl) (fun _ => rfl) (fun _ => rfl) (fun xa xd y h => ⟨Z,(zBK Z xa xd).trans h⟩)
abbrev zch:=Option ((LP × Unit) × Unit)
def zgq (Z:Nat):Tab:=Tab.of [(195,(zn4 Z).te),(195,(zn7 Z).te),(196,(zoa Z).te)] []
def zsN:List Norm:=[⟨[21,20,19,6],[],[],[]⟩]
noncomputable def zj9:C:=irOf Tryz.prog Tryz.f183 [] zsN []
def zgr:List (Nat × Option (Nat × Bool)):=[(4,none)]
abbrev zBM:Sx:=.grp (.dat (Kd.list KP) .nil) (.grp (.dat (Kd.list KP) .nil) .nil)
abbrev zBN:Sx:=.grp (.own 0 KP .nil) .nil
abbrev zbp:LF:=.pure zBM zBN true
abbrev zdD:=(Int) × (Int) × LP × LP
def zsO (v:zdD):Env × Heap:=([(21,SV.int .i64 v.1),(20,SV.int .i64 v.2.1),(19,SV.own 0),(6,SV.own 1)],[Blk.arr KP v.2.2.1 0,Blk.arr KP v.2.2.2 0])
def zgs (Z:Nat) (g0:zdD → zch) (v:zdD):zch :=
 cond (decide (v.1 < v.2.1))
 (tst (decide (0 ≤ v.1)) <|
 tst (decide (v.1 < (zz (List.length v.2.2.1)))) <|
 tst (decide (Int.toNat v.1 < List.length v.2.2.1)) <|
 cond (decide (w64 ((zz (List.length v.2.2.2)) - (1:Int)) ≥ (0:Int)))
 (tst (decide (0 ≤ w64 ((zz (List.length v.2.2.2)) - (1:Int)))) <|
 tst (decide (w64 ((zz (List.length v.2.2.2)) - (1:Int)) < (zz (List.length v.2.2.2)))) <|
 tst (decide (Int.toNat (w64 ((zz (List.length v.2.2.2)) - (1:Int))) < List.length v.2.2.2)) <|
 cond ((List.getD v.2.2.2 (Int.toNat (w64 ((zz (List.length v.2.2.2)) - (1:Int)))) (0,(0,()))).1 == (List.getD v.2.2.1 (Int.toNat v.1) (0,(0,()))).1)
 (tst (decide (0 ≤ w64 ((zz (List.length v.2.2.2)) - (1:Int)))) <|
 tst (decide (w64 ((zz (List.length v.2.2.2)) - (1:Int)) < (zz (List.length v.2.2.2)))) <|
 tst (decide (Int.toNat (w64 ((zz (List.length v.2.2.2)) - (1:Int))) < List.length v.2.2.2)) <|
 tst (decide (0 ≤ w64 ((zz (List.length v.2.2.2)) - (1:Int)))) <|
 tst (decide (w64 ((zz (List.length v.2.2.2)) - (1:Int)) < (zz (List.length v.2.2.2)))) <|
 tst (decide (Int.toNat (w64 ((zz (List.length v.2.2.2)) - (1:Int))) < List.length v.2.2.2)) <|
 g0 (w64 (v.1 + (1:Int)),v.2.1,v.2.2.1,List.set v.2.2.2 (Int.toNat (w64 ((zz (List.length v.2.2.2)) - (1:Int)))) ((List.getD v.2.2.2 (Int.toNat (w64 ((zz (List.length v.2.2.2)) - (1:Int)))) (0,(0,()))).1,w64 ((List.getD v.2.2.2 (Int.toNat (w64 ((zz (List.length v.2.2.2)) - (1:Int)))) (0,(0,()))).2.1 + (List.getD v.2.2.1 (Int.toNat v.1) (0,(0,()))).2.1),())))
 (tst (decide (List.length v.2.2.2 + 1 < LIM)) <|
 g0 (w64 (v.1 + (1:Int)),v.2.1,v.2.2.1,v.2.2.2 ++ [((List.getD v.2.2.1 (Int.toNat v.1) (0,(0,()))).1,(List.getD v.2.2.1 (Int.toNat v.1) (0,(0,()))).2.1,())])))
 (tst (decide (List.length v.2.2.2 + 1 < LIM)) <|
 g0 (w64 (v.1 + (1:Int)),v.2.1,v.2.2.1,v.2.2.2 ++ [((List.getD v.2.2.1 (Int.toNat v.1) (0,(0,()))).1,(List.getD v.2.2.1 (Int.toNat v.1) (0,(0,()))).2.1,())])))
 (some (((v.2.2.2,()),())))
def zka (Z:Nat) (g0:zdD → zch):zdD → zch:=zgs Z g0
theorem zBO (Z:Nat) (G):zj9.lp (zgq Z) 0 Z G (endX zgr zbp) 0 zsO = iter (zka Z) Z:=C.lp_iter fun g v => by kernel_rfl
def zkb (Z:Nat) (X0:zdD → zch) (x0:LP) (x1:LP):zch :=
 Option.bind (zj8 Z (([x0,x1],()),())) fun y_1 =>
 Option.bind (zn3 Z (y_1.1.1,(),())) fun y_2 =>
 tst (decide ((0:Int) ≤ (zz (List.length y_2.1)))) <|
 tst (decide (Int.toNat (zz (List.length y_2.1)) < LIM)) <|
 X0 ((0:Int),(zz (List.length y_2.1)),y_2.1,List.replicate (Int.toNat (0:Int)) (0,(0,())))
def zkc (Z:Nat) (z:((LP × Unit) × ((LP × Unit) × Unit))):zch:=zkb Z (iter (zka Z) Z) z.1.1 z.2.1.1
theorem zBP (Z:Nat) (xa:zbp.rt.T) (xd:zbp.D.T):zbp.go (zgq Z) Z zj9 zgr xa xd = zkc Z (zbp.xb (xa,xd)) :=
 (show zbp.go (zgq Z) Z zj9 zgr xa xd = zkb Z (zj9.lp (zgq Z) 0 Z (fun _ _ _ => none) (endX zgr zbp) 0 zsO) xd.1.1 xd.2.1.1 by kernel_rfl).trans (by rw [zBO]; rfl)
abbrev zsP (Z:Nat):LE:=⟨zbp,zkc Z⟩
theorem zBQ (Z:Nat):EntryOK Tryz.prog 183 (zsP Z).te:=okF (T:=zgq Z) (fn:=Tryz.f183) (le:=zsP Z) (frz:=[]) (ann:=zsN) (cuts:=[]) (rv:=zgr) (TabOK.of (entCons (zsF Z) (entCons (zsG Z) (entCons (zBL Z) entNil))) (methNil)) mixed (by kernel_rfl) (by kernel_rfl) (by kernel_rfl) (fun _ => rfl) (fun _ => rfl) (fun xa xd y h => ⟨Z,(zBP Z xa xd).trans h⟩)
def zob (Z:Nat) (x0:LP) (x1:Int) (x2:Int) (x3:LP) (x4:Int) (x5:Int):Option ((LP × (Int × (Int × Unit))) × Unit) :=
 Option.bind (zkc Z ((x0,()),(x3,()),())) fun y_1 =>
 Option.bind (zj6 Z ((y_1.1.1,w64 (x1 + x4),w64 (x2 + x5),()),())) fun y_2 =>
 some (((y_2.1.1,y_2.1.2.1,y_2.1.2.2.1,()),()))
def zoc (Z:Nat) (z:((LP × (Int × (Int × Unit))) × ((LP × (Int × (Int × Unit))) × Unit))):Option ((LP × (Int × (Int × Unit))) × Unit):=zob Z z.1.1 z.1.2.1 z.1.2.2.1 z.2.1.1 z.2.1.2.1 z.2.1.2.2.1
abbrev zBR (Z:Nat):LE:=⟨.pure (.agg (.dat (Kd.list KP) (.dat I6 (.dat I6 .nil))) (.agg (.dat (Kd.list KP) (.dat I6 (.dat I6 .nil))) .nil)) (.agg (.dat (Kd.list KP) (.dat I6 (.dat I6 .nil))) .nil) false,zoc Z⟩
theorem zBS (Z:Nat):EntryOK Tryz.prog 157 (zBR Z).te:=okS (fn:=Tryz.f157) (frz:=[21]) (ann:=[]) (cuts:=[]) (rv:=[(4,some (3,true))]) Z (TabOK.of (entCons (zBD Z) (entCons (zBQ Z) entNil)) (methNil)) mixed (by kernel_rfl) (by kernel_rfl) (by kernel_rfl) (fun _ => rfl) (fun _ => rfl) (fun _ _ => by kernel_rfl)
def zod (Z:Nat) (x0:LP) (x1:Int) (x2:Int) (x3:Int):Option ((LP × (Int × (Int × Unit))) × ((Bool × Unit) × Unit)) :=
 Option.bind (zjS Z ((x0,x1,x2,()),())) fun y_1 =>
 cond (!y_1.1.1)
 (some ((([],(0:Int),(0:Int),()),(false,()),())))
 (Option.bind (zS Z ((x3,()),())) fun y_3 =>
 cond (!y_3.1.1)
 (some ((([],(0:Int),(0:Int),()),(false,()),())))
 (cond (x2 == (2000:Int))
 (some ((([],(0:Int),(0:Int),()),(false,()),())))
 (Option.bind (zoc Z ((x0,x1,x2,()),([(x3,(1:Int),())],(0:Int),(1:Int),()),())) fun y_6 =>
 some (((y_6.1.1,y_6.1.2.1,y_6.1.2.2.1,()),(true,()),())))))
def zoe (Z:Nat) (z:((LP × (Int × (Int × Unit))) × ((Int × Unit) × Unit))):Option ((LP × (Int × (Int × Unit))) × ((Bool × Unit) × Unit)):=zod Z z.1.1 z.1.2.1 z.1.2.2.1 z.2.1.1
abbrev zBT (Z:Nat):LE:=⟨.pure (.agg (.dat (Kd.list KP) (.dat I6 (.dat I6 .nil))) (.grp (.dat I6 .nil) .nil)) (.agg (.dat (Kd.list KP) (.dat I6 (.dat I6 .nil))) (.grp (.dat Kd.bool .nil) .nil)) false,zoe Z⟩
theorem zBU (Z:Nat):EntryOK Tryz.prog 280 (zBT Z).te:=okS (fn:=Tryz.f280) (frz:=[25]) (ann:=[]) (cuts:=[]) (rv:=[(4,some (3,true)),(5,none)]) Z (TabOK.of (entCons (zca Z) (entCons (zA0 Z) (entCons (zBS Z) entNil))) (methNil)) mixed (by kernel_rfl) (by kernel_rfl) (by kernel_rfl) (fun _ => rfl) (fun _ => rfl) (fun _ _ => by kernel_rfl)
def zof (Z:Nat) (x0:LP) (x1:Int) (x2:Int) (x3:Int):Option (((LP × (Int × (Int × Unit))) × Unit) × (Bool × Unit)) :=
 Option.bind (zoe Z ((x0,x1,x2,()),(x3,()),())) fun y_1 =>
 some ((((y_1.1.1,y_1.1.2.1,y_1.1.2.2.1,()),()),y_1.2.1.1,()))
def zog (Z:Nat) (z:((LP × (Int × (Int × Unit))) × (Int × Unit))):Option (((LP × (Int × (Int × Unit))) × Unit) × (Bool × Unit)):=zof Z z.1.1 z.1.2.1 z.1.2.2.1 z.2.1
abbrev zsQ (Z:Nat):LE:=⟨.pure (.agg (.dat (Kd.list KP) (.dat I6 (.dat I6 .nil))) (.dat I6 .nil)) (.ifc 41 (.agg (.dat (Kd.list KP) (.dat I6 (.dat I6 .nil))) .nil) (.dat Kd.bool .nil)) false,zog Z⟩
theorem zBV (Z:Nat):EntryOK Tryz.prog 279 (zsQ Z).te:=okS (fn:=Tryz.f279) (frz:=[]) (ann:=[]) (cuts:=[]) (rv:=[(4,none),(5,none)]) Z (TabOK.of (entCons (zBU Z) entNil) (methNil)) mixed (by kernel_rfl) (by kernel_rfl) (by kernel_rfl) (fun _ => rfl) (fun _ => rfl) (fun _ _ => by kernel_rfl)
def zgt (Z:Nat):Tab:=Tab.of [] []
def zsR:List Norm:=[⟨[18,17,16,3,1,4],[],[],[]⟩]
noncomputable def zkd:C:=irOf Tryz.prog Tryz.f86 [] zsR []
def zgu:List (Nat × Option (Nat × Bool)):=[(2,none)]
abbrev zBW:Sx:=.agg (.dat (Kd.list KP) (.dat I6 .nil)) .nil
abbrev zBX:Sx:=.grp (.dat Kd.bool .nil) .nil
abbrev zbq:LF:=.pure zBW zBX true
abbrev zdE:=(Int) × (Int) × LP × (Int) × (Int) × LP × (Int)
def zsS (v:zdE):Env × Heap:=([(18,SV.int .i64 v.1),(17,SV.int .i64 v.2.1),(16,SV.es KP v.2.2.1),(3,SV.int .i64 v.2.2.2.1),(1,SV.ptr 0 0),(4,SV.int .i64 v.2.2.2.2.1)],[Blk.cells [SV.es KP v.2.2.2.2.2.1,SV.int .i64 v.2.2.2.2.2.2] 0 2])
def zgv (Z:Nat) (g0:zdE → Option ((Bool × Unit) × Unit)) (v:zdE):Option ((Bool × Unit) × Unit) :=
 cond (decide (v.1 < v.2.1))
 (tst (decide (0 ≤ v.1)) <|
 tst (decide (v.1 < (zz (List.length v.2.2.1)))) <|
 cond (decide ((List.getD v.2.2.1 (Int.toNat v.1) (0,(0,()))).1 ≤ v.2.2.2.1))
 (some (((false,()),())))
 (cond (decide ((List.getD v.2.2.1 (Int.toNat v.1) (0,(0,()))).1 ≥ (128:Int)))
 (some (((false,()),())))
 (cond (decide ((List.getD v.2.2.1 (Int.toNat v.1) (0,(0,()))).2.1 < (1:Int)))
 (some (((false,()),())))
 (cond (decide ((List.getD v.2.2.1 (Int.toNat v.1) (0,(0,()))).2.1 > (2000:Int)))
 (some (((false,()),())))
 (cond (decide ((List.getD v.2.2.1 (Int.toNat v.1) (0,(0,()))).1 < (64:Int)))
 (cond (decide ((List.getD v.2.2.1 (Int.toNat v.1) (0,(0,()))).2.1 > w64 (Int.tdiv v.2.2.2.2.2.2 (8:Int))))
 (some (((false,()),())))
 (g0 (w64 (v.1 + (1:Int)),v.2.1,v.2.2.1,(List.getD v.2.2.1 (Int.toNat v.1) (0,(0,()))).1,w64 (v.2.2.2.2.1 + (List.getD v.2.2.1 (Int.toNat v.1) (0,(0,()))).2.1),v.2.2.2.2.2.1,v.2.2.2.2.2.2)))
 (g0 (w64 (v.1 + (1:Int)),v.2.1,v.2.2.1,(List.getD v.2.2.1 (Int.toNat v.1) (0,(0,()))).1,w64 (v.2.2.2.2.1 + (List.getD v.2.2.1 (Int.toNat v.1) (0,(0,()))).2.1),v.2.2.2.2.2.1,v.2.2.2.2.2.2)))))))
 (some (((v.2.2.2.2.1 == v.2.2.2.2.2.2,()),())))
def zke (Z:Nat) (g0:zdE → Option ((Bool × Unit) × Unit)):zdE → Option ((Bool × Unit) × Unit):=zgv Z g0
theorem zBY (Z:Nat) (G):zkd.lp (zgt Z) 0 Z G (endX zgu zbq) 0 zsS = iter (zke Z) Z:=C.lp_iter fun g v => by kernel_rfl
def zoh (Z:Nat) (X0:zdE → Option ((Bool × Unit) × Unit)) (x0:LP) (x1:Int):Option ((Bool × Unit) × Unit) :=
 cond (decide (x1 < (0:Int)))
 (some (((false,()),())))
 (cond (decide (x1 > (2000:Int)))
 (some (((false,()),())))
 (X0 ((0:Int),(zz (List.length x0)),x0,(0:Int),(0:Int),x0,x1)))
def zgw (Z:Nat) (z:((LP × (Int × Unit)) × Unit)):Option ((Bool × Unit) × Unit):=zoh Z (iter (zke Z) Z) z.1.1 z.1.2.1
theorem zBZ (Z:Nat) (xa:zbq.rt.T) (xd:zbq.D.T):zbq.go (zgt Z) Z zkd zgu xa xd = zgw Z (zbq.xb (xa,xd)) :=
 (show zbq.go (zgt Z) Z zkd zgu xa xd = zoh Z (zkd.lp (zgt Z) 0 Z (fun _ _ _ => none) (endX zgu zbq) 0 zsS) xd.1.1 xd.1.2.1 by kernel_rfl).trans (by rw [zBY]; rfl)
abbrev zsT (Z:Nat):LE:=⟨zbq,zgw Z⟩
theorem zB0 (Z:Nat):EntryOK Tryz.prog 86 (zsT Z).te:=okF (T:=zgt Z) (fn:=Tryz.f86) (le:=zsT Z) (frz:=[]) (ann:=zsR) (cuts:=[]) (rv:=zgu) (TabOK.of (entNil) (methNil)) mixed (by kernel_rfl) (by kernel_rfl) (by kernel_rfl) (fun _ => rfl) (fun _ => rfl) (fun xa xd y h => ⟨Z,(zBZ Z xa xd).trans h⟩)
def zgx (Z:Nat):Tab:=Tab.of [] []
def zsU:List Norm:=[⟨[8,7,6,0],[],[],[]⟩]
noncomputable def zkf:C:=irOf Tryz.prog Tryz.f184 [] zsU []
def zgy:List (Nat × Option (Nat × Bool)):=[]
abbrev zB1:Sx:=.grp (.dat (Kd.list KP) .nil) .nil
abbrev zB2:Sx:=.nil
abbrev zB3:Rt:=.arr I6
abbrev zbr:LF:=.ref zB3 zB1 zB2 true
abbrev zdF:=(Int) × (Int) × LP × (List Int)
def zsV (v:zdF):Env × Heap:=([(8,SV.int .i64 v.1),(7,SV.int .i64 v.2.1),(6,SV.es KP v.2.2.1),(0,SV.ptr 0 0)],[Blk.arr I6 v.2.2.2 0])
def zgz (Z:Nat) (g0:zdF → Option ((List Int) × Unit)) (v:zdF):Option ((List Int) × Unit) :=
 cond (decide (v.1 < v.2.1))
 (tst (decide (0 ≤ v.1)) <|
 tst (decide (v.1 < (zz (List.length v.2.2.1)))) <|
 tst (decide (0 ≤ (List.getD v.2.2.1 (Int.toNat v.1) (0,(0,()))).1)) <|
 tst (decide ((List.getD v.2.2.1 (Int.toNat v.1) (0,(0,()))).1 < (zz 128))) <|
 tst (decide (Int.toNat (List.getD v.2.2.1 (Int.toNat v.1) (0,(0,()))).1 < List.length v.2.2.2)) <|
 tst (decide (0 ≤ (List.getD v.2.2.1 (Int.toNat v.1) (0,(0,()))).1)) <|
 tst (decide ((List.getD v.2.2.1 (Int.toNat v.1) (0,(0,()))).1 < (zz 128))) <|
 tst (decide (Int.toNat (List.getD v.2.2.1 (Int.toNat v.1) (0,(0,()))).1 < List.length v.2.2.2)) <|
 g0 (w64 (v.1 + (1:Int)),v.2.1,v.2.2.1,List.set v.2.2.2 (Int.toNat (List.getD v.2.2.1 (Int.toNat v.1) (0,(0,()))).1) (w64 (List.getD v.2.2.2 (Int.toNat (List.getD v.2.2.1 (Int.toNat v.1) (0,(0,()))).1) 0 + (List.getD v.2.2.1 (Int.toNat v.1) (0,(0,()))).2.1))))
 (some ((v.2.2.2,())))
def zkg (Z:Nat) (g0:zdF → Option ((List Int) × Unit)):zdF → Option ((List Int) × Unit):=zgz Z g0
theorem zB4 (Z:Nat) (G):zkf.lp (zgx Z) 1 Z G (endX zgy zbr) 0 zsV = iter (zkg Z) Z:=C.lp_iter fun g v => by kernel_rfl
def zoi (Z:Nat) (X0:zdF → Option ((List Int) × Unit)) (d0:List Int) (x0:LP):Option ((List Int) × Unit) :=
 X0 ((0:Int),(zz (List.length x0)),x0,d0)
def zdG (Z:Nat) (z:((List Int) × ((LP × Unit) × Unit))):Option ((List Int) × Unit):=zoi Z (iter (zkg Z) Z) z.1 z.2.1.1
theorem zB5 (Z:Nat) (xa:zbr.rt.T) (xd:zbr.D.T):zbr.go (zgx Z) Z zkf zgy xa xd = zdG Z (zbr.xb (xa,xd)) :=
 (show zbr.go (zgx Z) Z zkf zgy xa xd = zoi Z (zkf.lp (zgx Z) 1 Z (fun _ _ _ => none) (endX zgy zbr) 0 zsV) xa xd.1.1 by kernel_rfl).trans (by rw [zB4]; rfl)
abbrev zoj (Z:Nat):LE:=⟨zbr,zdG Z⟩
theorem zB6 (Z:Nat):EntryOK Tryz.prog 184 (zoj Z).te:=okF (T:=zgx Z) (fn:=Tryz.f184) (le:=zoj Z) (frz:=[]) (ann:=zsU) (cuts:=[]) (rv:=zgy) (TabOK.of (entNil) (methNil)) mixed (by kernel_rfl) (by kernel_rfl) (by kernel_rfl) (fun _ => rfl) (fun _ => rfl) (fun xa xd y h => ⟨Z,(zB5 Z xa xd).trans h⟩)
def zaK (Z:Nat):Tab:=Tab.of [] []
def zsW:List Norm:=[⟨[5,4,0,1],[],[],[]⟩,{ live:=[4,0,1],fix:=[(4,none,I6,true)] }]
noncomputable def zaL:C:=irOf Tryz.prog Tryz.f185 [] zsW []
def zbs:List (Nat × Option (Nat × Bool)):=[]
abbrev zB7:Sx:=.grp (.dat I6 .nil) .nil
abbrev zB8:Sx:=.nil
abbrev zB9:Rt:=.arr I6
abbrev zag:LF:=.ref zB9 zB7 zB8 true
abbrev zdH:=(Int) × (Int) × (List Int) × (List Int)
abbrev zdI:=(Int) × (List Int) × (List Int)
def zdJ (v:zdH):Env × Heap:=([(5,SV.int .i64 v.1),(4,SV.own 1),(0,SV.ptr 0 0),(1,SV.int .i64 v.2.1)],[Blk.arr I6 v.2.2.1 0,Blk.arr I6 v.2.2.2 0])
def zsX (v:zdI):Env × Heap:=([(4,SV.own 1),(0,SV.ptr 0 0),(1,SV.int .i64 v.1)],[Blk.arr I6 v.2.1 0,Blk.arr I6 v.2.2 0])
def zgA (Z:Nat) (g1:zdI → Option ((List Int) × Unit)) (v:zdI):Option ((List Int) × Unit) :=
 cond (decide ((zz (List.length v.2.2)) > (0:Int)))
 (tst (decide ((0:Int) < (zz (List.length v.2.2)))) <|
 tst (decide (Int.toNat (0:Int) < List.length v.2.2)) <|
 tst (decide ((1:Int) ≤ (zz (List.length v.2.2)))) <|
 tst (decide (0 ≤ w64 (List.getD v.2.2 (Int.toNat (0:Int)) 0 * 2 ^ min (Int.toNat (1:Int)) (IntKind.bits IntKind.i64)))) <|
 tst (decide (w64 (List.getD v.2.2 (Int.toNat (0:Int)) 0 * 2 ^ min (Int.toNat (1:Int)) (IntKind.bits IntKind.i64)) < (zz 128))) <|
 tst (decide (Int.toNat (w64 (List.getD v.2.2 (Int.toNat (0:Int)) 0 * 2 ^ min (Int.toNat (1:Int)) (IntKind.bits IntKind.i64))) < List.length v.2.1)) <|
 tst (decide (0 ≤ w64 (zz (BitVec.toNat (BitVec.ofInt (IntKind.bits IntKind.i64) (w64 (List.getD v.2.2 (Int.toNat (0:Int)) 0 * 2 ^ min (Int.toNat (1:Int)) (IntKind.bits IntKind.i64))) ||| BitVec.ofInt (IntKind.bits IntKind.i64) (1:Int)))))) <|
 tst (decide (w64 (zz (BitVec.toNat (BitVec.ofInt (IntKind.bits IntKind.i64) (w64 (List.getD v.2.2 (Int.toNat (0:Int)) 0 * 2 ^ min (Int.toNat (1:Int)) (IntKind.bits IntKind.i64))) ||| BitVec.ofInt (IntKind.bits IntKind.i64) (1:Int)))) < (zz 128))) <|
 tst (decide (Int.toNat (w64 (zz (BitVec.toNat (BitVec.ofInt (IntKind.bits IntKind.i64) (w64 (List.getD v.2.2 (Int.toNat (0:Int)) 0 * 2 ^ min (Int.toNat (1:Int)) (IntKind.bits IntKind.i64))) ||| BitVec.ofInt (IntKind.bits IntKind.i64) (1:Int))))) < List.length v.2.1)) <|
 cond (decide (w64 (List.getD v.2.1 (Int.toNat (w64 (List.getD v.2.2 (Int.toNat (0:Int)) 0 * 2 ^ min (Int.toNat (1:Int)) (IntKind.bits IntKind.i64)))) 0 + List.getD v.2.1 (Int.toNat (w64 (zz (BitVec.toNat (BitVec.ofInt (IntKind.bits IntKind.i64) (w64 (List.getD v.2.2 (Int.toNat (0:Int)) 0 * 2 ^ min (Int.toNat (1:Int)) (IntKind.bits IntKind.i64))) ||| BitVec.ofInt (IntKind.bits IntKind.i64) (1:Int)))))) 0) > (0:Int)))
 (tst (decide (0 ≤ List.getD v.2.2 (Int.toNat (0:Int)) 0)) <|
 tst (decide (List.getD v.2.2 (Int.toNat (0:Int)) 0 < (zz 128))) <|
 tst (decide (Int.toNat (List.getD v.2.2 (Int.toNat (0:Int)) 0) < List.length v.2.1)) <|
 cond (decide (w64 (w64 (List.getD v.2.1 (Int.toNat (w64 (List.getD v.2.2 (Int.toNat (0:Int)) 0 * 2 ^ min (Int.toNat (1:Int)) (IntKind.bits IntKind.i64)))) 0 + List.getD v.2.1 (Int.toNat (w64 (zz (BitVec.toNat (BitVec.ofInt (IntKind.bits IntKind.i64) (w64 (List.getD v.2.2 (Int.toNat (0:Int)) 0 * 2 ^ min (Int.toNat (1:Int)) (IntKind.bits IntKind.i64))) ||| BitVec.ofInt (IntKind.bits IntKind.i64) (1:Int)))))) 0) + List.getD v.2.1 (Int.toNat (List.getD v.2.2 (Int.toNat (0:Int)) 0)) 0) ≤ w64 (Int.tdiv v.1 (8:Int))))
 (tst (decide (0 ≤ List.getD v.2.2 (Int.toNat (0:Int)) 0)) <|
 tst (decide (List.getD v.2.2 (Int.toNat (0:Int)) 0 < (zz 128))) <|
 tst (decide (Int.toNat (List.getD v.2.2 (Int.toNat (0:Int)) 0) < List.length v.2.1)) <|
 tst (decide (0 ≤ List.getD v.2.2 (Int.toNat (0:Int)) 0)) <|
 tst (decide (List.getD v.2.2 (Int.toNat (0:Int)) 0 < (zz 128))) <|
 tst (decide (Int.toNat (List.getD v.2.2 (Int.toNat (0:Int)) 0) < List.length v.2.1)) <|
 tst (decide (0 ≤ w64 (List.getD v.2.2 (Int.toNat (0:Int)) 0 * 2 ^ min (Int.toNat (1:Int)) (IntKind.bits IntKind.i64)))) <|
 tst (decide (w64 (List.getD v.2.2 (Int.toNat (0:Int)) 0 * 2 ^ min (Int.toNat (1:Int)) (IntKind.bits IntKind.i64)) < (zz 128))) <|
 tst (decide (Int.toNat (w64 (List.getD v.2.2 (Int.toNat (0:Int)) 0 * 2 ^ min (Int.toNat (1:Int)) (IntKind.bits IntKind.i64))) < List.length (List.set v.2.1 (Int.toNat (List.getD v.2.2 (Int.toNat (0:Int)) 0)) (w64 (List.getD v.2.1 (Int.toNat (List.getD v.2.2 (Int.toNat (0:Int)) 0)) 0 + w64 (List.getD v.2.1 (Int.toNat (w64 (List.getD v.2.2 (Int.toNat (0:Int)) 0 * 2 ^ min (Int.toNat (1:Int)) (IntKind.bits IntKind.i64)))) 0 + List.getD v.2.1 (Int.toNat (w64 (zz (BitVec.toNat (BitVec.ofInt (IntKind.bits IntKind.i64) (w64 (List.getD v.2.2 (Int.toNat (0:Int)) 0 * 2 ^ min (Int.toNat (1:Int)) (IntKind.bits IntKind.i64))) ||| BitVec.ofInt (IntKind.bits IntKind.i64) (1:Int)))))) 0)))))) <|
 tst (decide (0 ≤ w64 (zz (BitVec.toNat (BitVec.ofInt (IntKind.bits IntKind.i64) (w64 (List.getD v.2.2 (Int.toNat (0:Int)) 0 * 2 ^ min (Int.toNat (1:Int)) (IntKind.bits IntKind.i64))) ||| BitVec.ofInt (IntKind.bits IntKind.i64) (1:Int)))))) <|
 tst (decide (w64 (zz (BitVec.toNat (BitVec.ofInt (IntKind.bits IntKind.i64) (w64 (List.getD v.2.2 (Int.toNat (0:Int)) 0 * 2 ^ min (Int.toNat (1:Int)) (IntKind.bits IntKind.i64))) ||| BitVec.ofInt (IntKind.bits IntKind.i64) (1:Int)))) < (zz 128))) <|
 tst (decide (Int.toNat (w64 (zz (BitVec.toNat (BitVec.ofInt (IntKind.bits IntKind.i64) (w64 (List.getD v.2.2 (Int.toNat (0:Int)) 0 * 2 ^ min (Int.toNat (1:Int)) (IntKind.bits IntKind.i64))) ||| BitVec.ofInt (IntKind.bits IntKind.i64) (1:Int))))) < List.length (List.set (List.set v.2.1 (Int.toNat (List.getD v.2.2 (Int.toNat (0:Int)) 0)) (w64 (List.getD v.2.1 (Int.toNat (List.getD v.2.2 (Int.toNat (0:Int)) 0)) 0 + w64 (List.getD v.2.1 (Int.toNat (w64 (List.getD v.2.2 (Int.toNat (0:Int)) 0 * 2 ^ min (Int.toNat (1:Int)) (IntKind.bits IntKind.i64)))) 0 + List.getD v.2.1 (Int.toNat (w64 (zz (BitVec.toNat (BitVec.ofInt (IntKind.bits IntKind.i64) (w64 (List.getD v.2.2 (Int.toNat (0:Int)) 0 * 2 ^ min (Int.toNat (1:Int)) (IntKind.bits IntKind.i64))) ||| BitVec.ofInt (IntKind.bits IntKind.i64) (1:Int)))))) 0)))) (Int.toNat (w64 (List.getD v.2.2 (Int.toNat (0:Int)) 0 * 2 ^ min (Int.toNat (1:Int)) (IntKind.bits IntKind.i64)))) (0:Int)))) <|
 cond (w64 (zz (BitVec.toNat (BitVec.ofInt (IntKind.bits IntKind.i64) (List.getD v.2.2 (Int.toNat (0:Int)) 0) &&& BitVec.ofInt (IntKind.bits IntKind.i64) (1:Int)))) == (0:Int))
 (tst (decide (List.length (List.take (List.length v.2.2 - Int.toNat (1:Int)) (List.drop (Int.toNat (1:Int)) v.2.2)) + 1 < LIM)) <|
 g1 (v.1,List.set (List.set (List.set v.2.1 (Int.toNat (List.getD v.2.2 (Int.toNat (0:Int)) 0)) (w64 (List.getD v.2.1 (Int.toNat (List.getD v.2.2 (Int.toNat (0:Int)) 0)) 0 + w64 (List.getD v.2.1 (Int.toNat (w64 (List.getD v.2.2 (Int.toNat (0:Int)) 0 * 2 ^ min (Int.toNat (1:Int)) (IntKind.bits IntKind.i64)))) 0 + List.getD v.2.1 (Int.toNat (w64 (zz (BitVec.toNat (BitVec.ofInt (IntKind.bits IntKind.i64) (w64 (List.getD v.2.2 (Int.toNat (0:Int)) 0 * 2 ^ min (Int.toNat (1:Int)) (IntKind.bits IntKind.i64))) ||| BitVec.ofInt (IntKind.bits IntKind.i64) (1:Int)))))) 0)))) (Int.toNat (w64 (List.getD v.2.2 (Int.toNat (0:Int)) 0 * 2 ^ min (Int.toNat (1:Int)) (IntKind.bits IntKind.i64)))) (0:Int)) (Int.toNat (w64 (zz (BitVec.toNat (BitVec.ofInt (IntKind.bits IntKind.i64) (w64 (List.getD v.2.2 (Int.toNat (0:Int)) 0 * 2 ^ min (Int.toNat (1:Int)) (IntKind.bits IntKind.i64))) ||| BitVec.ofInt (IntKind.bits IntKind.i64) (1:Int)))))) (0:Int),List.take (List.length v.2.2 - Int.toNat (1:Int)) (List.drop (Int.toNat (1:Int)) v.2.2) ++ [Int.fdiv (List.getD v.2.2 (Int.toNat (0:Int)) 0) (2 ^ min (Int.toNat (1:Int)) (IntKind.bits IntKind.i64))]))
 (g1 (v.1,List.set (List.set (List.set v.2.1 (Int.toNat (List.getD v.2.2 (Int.toNat (0:Int)) 0)) (w64 (List.getD v.2.1 (Int.toNat (List.getD v.2.2 (Int.toNat (0:Int)) 0)) 0 + w64 (List.getD v.2.1 (Int.toNat (w64 (List.getD v.2.2 (Int.toNat (0:Int)) 0 * 2 ^ min (Int.toNat (1:Int)) (IntKind.bits IntKind.i64)))) 0 + List.getD v.2.1 (Int.toNat (w64 (zz (BitVec.toNat (BitVec.ofInt (IntKind.bits IntKind.i64) (w64 (List.getD v.2.2 (Int.toNat (0:Int)) 0 * 2 ^ min (Int.toNat (1:Int)) (IntKind.bits IntKind.i64))) ||| BitVec.ofInt (IntKind.bits IntKind.i64) (1:Int)))))) 0)))) (Int.toNat (w64 (List.getD v.2.2 (Int.toNat (0:Int)) 0 * 2 ^ min (Int.toNat (1:Int)) (IntKind.bits IntKind.i64)))) (0:Int)) (Int.toNat (w64 (zz (BitVec.toNat (BitVec.ofInt (IntKind.bits IntKind.i64) (w64 (List.getD v.2.2 (Int.toNat (0:Int)) 0 * 2 ^ min (Int.toNat (1:Int)) (IntKind.bits IntKind.i64))) ||| BitVec.ofInt (IntKind.bits IntKind.i64) (1:Int)))))) (0:Int),List.take (List.length v.2.2 - Int.toNat (1:Int)) (List.drop (Int.toNat (1:Int)) v.2.2))))
 (cond (w64 (zz (BitVec.toNat (BitVec.ofInt (IntKind.bits IntKind.i64) (List.getD v.2.2 (Int.toNat (0:Int)) 0) &&& BitVec.ofInt (IntKind.bits IntKind.i64) (1:Int)))) == (0:Int))
 (tst (decide (List.length (List.take (List.length v.2.2 - Int.toNat (1:Int)) (List.drop (Int.toNat (1:Int)) v.2.2)) + 1 < LIM)) <|
 g1 (v.1,v.2.1,List.take (List.length v.2.2 - Int.toNat (1:Int)) (List.drop (Int.toNat (1:Int)) v.2.2) ++ [Int.fdiv (List.getD v.2.2 (Int.toNat (0:Int)) 0) (2 ^ min (Int.toNat (1:Int)) (IntKind.bits IntKind.i64))]))
 (g1 (v.1,v.2.1,List.take (List.length v.2.2 - Int.toNat (1:Int)) (List.drop (Int.toNat (1:Int)) v.2.2)))))
 (cond (w64 (zz (BitVec.toNat (BitVec.ofInt (IntKind.bits IntKind.i64) (List.getD v.2.2 (Int.toNat (0:Int)) 0) &&& BitVec.ofInt (IntKind.bits IntKind.i64) (1:Int)))) == (0:Int))
 (tst (decide (List.length (List.take (List.length v.2.2 - Int.toNat (1:Int)) (List.drop (Int.toNat (1:Int)) v.2.2)) + 1 < LIM)) <|
 g1 (v.1,v.2.1,List.take (List.length v.2.2 - Int.toNat (1:Int)) (List.drop (Int.toNat (1:Int)) v.2.2) ++ [Int.fdiv (List.getD v.2.2 (Int.toNat (0:Int)) 0) (2 ^ min (Int.toNat (1:Int)) (IntKind.bits IntKind.i64))]))
 (g1 (v.1,v.2.1,List.take (List.length v.2.2 - Int.toNat (1:Int)) (List.drop (Int.toNat (1:Int)) v.2.2)))))
 (some ((v.2.1,())))
def zci (Z:Nat) (g1:zdI → Option ((List Int) × Unit)):zdI → Option ((List Int) × Unit):=zgA Z g1
theorem zCa (Z:Nat) (G):zaL.lp (zaK Z) 1 Z G (endX zbs zag) 1 zsX = iter (zci Z) Z:=C.lp_iter fun g v => by kernel_rfl
def zdK (Z:Nat) (X1:zdI → Option ((List Int) × Unit)) (g0:zdH → Option ((List Int) × Unit)) (v:zdH):Option ((List Int) × Unit) :=
 cond (decide (v.1 ≥ (32:Int)))
 (tst (decide (List.length v.2.2.2 + 1 < LIM)) <|
 g0 (w64 (v.1 - (1:Int)),v.2.1,v.2.2.1,v.2.2.2 ++ [v.1]))
 (X1 (v.2.1,v.2.2.1,v.2.2.2))
def zok (Z:Nat) (g0:zdH → Option ((List Int) × Unit)):zdH → Option ((List Int) × Unit):=zdK Z (iter (zci Z) Z) g0
theorem zCb (Z:Nat) (G):zaL.lp (zaK Z) 1 Z G (endX zbs zag) 0 zdJ = iter (zok Z) Z:=C.lp_iter fun g v =>
 (show run (zaK Z) 1 Z (zaL.bdAt 0) (zdJ v).1 (zdJ v).2 (loopK 1 (zaL.nmAt 0) g (zaL.contAt (zaK Z) 1 Z G 0 0 (endX zbs zag))) = zdK Z (zaL.lp (zaK Z) 1 Z (fun m => bif Nat.beq m 0 then g else G m) (endX zbs zag) 1 zsX) (fun v => g (zdJ v).1 (zdJ v).2) v by kernel_rfl).trans (by rw [zCa]; rfl)
def zol (Z:Nat) (X0:zdH → Option ((List Int) × Unit)) (d0:List Int) (x0:Int):Option ((List Int) × Unit) :=
 X0 ((63:Int),x0,d0,List.replicate (Int.toNat (0:Int)) 0)
def zgB (Z:Nat) (z:((List Int) × ((Int × Unit) × Unit))):Option ((List Int) × Unit):=zol Z (iter (zok Z) Z) z.1 z.2.1.1
theorem zCc (Z:Nat) (xa:zag.rt.T) (xd:zag.D.T):zag.go (zaK Z) Z zaL zbs xa xd = zgB Z (zag.xb (xa,xd)) :=
 (show zag.go (zaK Z) Z zaL zbs xa xd = zol Z (zaL.lp (zaK Z) 1 Z (fun _ _ _ => none) (endX zbs zag) 0 zdJ) xa xd.1.1 by kernel_rfl).trans (by rw [zCb]; rfl)
abbrev zom (Z:Nat):LE:=⟨zag,zgB Z⟩
theorem zCd (Z:Nat):EntryOK Tryz.prog 185 (zom Z).te:=okF (T:=zaK Z) (fn:=Tryz.f185) (le:=zom Z) (frz:=[]) (ann:=zsW) (cuts:=[]) (rv:=zbs) (TabOK.of (entNil) (methNil)) mixed (by kernel_rfl) (by kernel_rfl) (by kernel_rfl) (fun _ => rfl) (fun _ => rfl) (fun xa xd y h => ⟨Z,(zCc Z xa xd).trans h⟩)
abbrev zcj:=Option ((LP × (Int × Unit)) × Unit)
def zgC (Z:Nat):Tab:=Tab.of [(184,(zoj Z).te),(185,(zom Z).te)] []
def zsY:List Norm:=[{ live:=[24,23,7,6,4],fix:=[(7,none,KP,true)] }]
noncomputable def zkh:C:=irOf Tryz.prog Tryz.f158 [] zsY []
def zgD:List (Nat × Option (Nat × Bool)):=[(4,some (2,true))]
abbrev zCe:Sx:=.agg (.dat (Kd.list KP) (.dat I6 .nil)) (.agg (.dat (Kd.list KP) (.dat I6 .nil)) .nil)
abbrev zCf:Sx:=.agg (.own 0 KP (.dat I6 .nil)) .nil
abbrev zbt:LF:=.pure zCe zCf true
abbrev zdL:=(Int) × (List Int) × (Int) × LP × (Int)
def zsZ (v:zdL):Env × Heap:=([(24,SV.int .i64 v.1),(23,SV.arrv I6 v.2.1),(7,SV.own 0),(6,SV.int .i64 v.2.2.1),(4,SV.ptr 1 0)],[Blk.arr KP v.2.2.2.1 0,Blk.cells [SV.nils,SV.int .i64 v.2.2.2.2] 0 2])
def zgE (Z:Nat) (g0:zdL → zcj) (v:zdL):zcj :=
 cond (decide (v.1 < (128:Int)))
 (tst (decide (0 ≤ v.1)) <|
 tst (decide (v.1 < (zz 128))) <|
 tst (decide (v.1 < (zz (List.length v.2.1)))) <|
 cond (decide (List.getD v.2.1 (Int.toNat v.1) 0 > (0:Int)))
 (tst (decide (List.length v.2.2.2.1 + 1 < LIM)) <|
 g0 (w64 (v.1 + (1:Int)),v.2.1,v.2.2.1,v.2.2.2.1 ++ [(v.1,List.getD v.2.1 (Int.toNat v.1) 0,())],v.2.2.2.2))
 (g0 (w64 (v.1 + (1:Int)),v.2.1,v.2.2.1,v.2.2.2.1,v.2.2.2.2)))
 (some (((v.2.2.2.1,v.2.2.1,()),())))
def zgF (Z:Nat) (g0:zdL → zcj):zdL → zcj:=zgE Z g0
theorem zCg (Z:Nat) (G):zkh.lp (zgC Z) 0 Z G (endX zgD zbt) 0 zsZ = iter (zgF Z) Z:=C.lp_iter fun g v => by kernel_rfl
def zki (Z:Nat) (X0:zdL → zcj) (x0:LP) (x1:Int) (x2:LP) (x3:Int):zcj :=
 Option.bind (zdG Z (List.replicate 128 0,(x0,()),())) fun y_1 =>
 Option.bind (zdG Z (y_1.1,(x2,()),())) fun y_2 =>
 Option.bind (zgB Z (y_2.1,(w64 (x1 + x3),()),())) fun y_3 =>
 tst (Nat.beq (List.length y_3.1 * Kd.sz I6) 128) <|
 X0 ((0:Int),y_3.1,w64 (x1 + x3),[],(0:Int))
def zkj (Z:Nat) (z:((LP × (Int × Unit)) × ((LP × (Int × Unit)) × Unit))):zcj:=zki Z (iter (zgF Z) Z) z.1.1 z.1.2.1 z.2.1.1 z.2.1.2.1
theorem zCh (Z:Nat) (xa:zbt.rt.T) (xd:zbt.D.T):zbt.go (zgC Z) Z zkh zgD xa xd = zkj Z (zbt.xb (xa,xd)) :=
 (show zbt.go (zgC Z) Z zkh zgD xa xd = zki Z (zkh.lp (zgC Z) 0 Z (fun _ _ _ => none) (endX zgD zbt) 0 zsZ) xd.1.1 xd.1.2.1 xd.2.1.1 xd.2.1.2.1 by kernel_rfl).trans (by rw [zCg]; rfl)
abbrev zs0 (Z:Nat):LE:=⟨zbt,zkj Z⟩
theorem zCi (Z:Nat):EntryOK Tryz.prog 158 (zs0 Z).te:=okF (T:=zgC Z) (fn:=Tryz.f158) (le:=zs0 Z) (frz:=[]) (ann:=zsY) (cuts:=[]) (rv:=zgD) (TabOK.of (entCons (zB6 Z) (entCons (zCd Z) entNil)) (methNil)) mixed (by kernel_rfl) (by kernel_rfl) (by kernel_rfl) (fun _ => rfl) (fun _ => rfl) (fun xa xd y h => ⟨Z,(zCh Z xa xd).trans h⟩)
def zon (Z:Nat) (x0:LP) (x1:Int) (x2:Int):Option ((LP × (Int × Unit)) × ((Bool × Unit) × Unit)) :=
 Option.bind (zgw Z ((x0,x1,()),())) fun y_1 =>
 cond (!y_1.1.1)
 (some ((([],(0:Int),()),(false,()),())))
 (Option.bind (zS Z ((x2,()),())) fun y_3 =>
 cond (!y_3.1.1)
 (some ((([],(0:Int),()),(false,()),())))
 (cond (x1 == (2000:Int))
 (some ((([],(0:Int),()),(false,()),())))
 (Option.bind (zkj Z ((x0,x1,()),([(w64 ((64:Int) + x2),(1:Int),())],(1:Int),()),())) fun y_6 =>
 some (((y_6.1.1,y_6.1.2.1,()),(true,()),())))))
def zkk (Z:Nat) (z:((LP × (Int × Unit)) × ((Int × Unit) × Unit))):Option ((LP × (Int × Unit)) × ((Bool × Unit) × Unit)):=zon Z z.1.1 z.1.2.1 z.2.1.1
abbrev zCj (Z:Nat):LE:=⟨.pure (.agg (.dat (Kd.list KP) (.dat I6 .nil)) (.grp (.dat I6 .nil) .nil)) (.agg (.own 0 KP (.dat I6 .nil)) (.grp (.dat Kd.bool .nil) .nil)) true,zkk Z⟩
theorem zCk (Z:Nat):EntryOK Tryz.prog 283 (zCj Z).te:=okS (fn:=Tryz.f283) (frz:=[]) (ann:=[]) (cuts:=[]) (rv:=[(4,some (2,true)),(5,none)]) Z (TabOK.of (entCons (zB0 Z) (entCons (zca Z) (entCons (zCi Z) entNil))) (methNil)) mixed (by kernel_rfl) (by kernel_rfl) (by kernel_rfl) (fun _ => rfl) (fun _ => rfl) (fun _ _ => by kernel_rfl)
def zoo (Z:Nat) (x0:LP) (x1:Int) (x2:Int):Option (((LP × (Int × Unit)) × Unit) × (Bool × Unit)) :=
 Option.bind (zkk Z ((x0,x1,()),(x2,()),())) fun y_1 =>
 some ((((y_1.1.1,y_1.1.2.1,()),()),y_1.2.1.1,()))
def zop (Z:Nat) (z:((LP × (Int × Unit)) × (Int × Unit))):Option (((LP × (Int × Unit)) × Unit) × (Bool × Unit)):=zoo Z z.1.1 z.1.2.1 z.2.1
abbrev zs1 (Z:Nat):LE:=⟨.pure (.agg (.dat (Kd.list KP) (.dat I6 .nil)) (.dat I6 .nil)) (.ifc 44 (.agg (.dat (Kd.list KP) (.dat I6 .nil)) .nil) (.dat Kd.bool .nil)) false,zop Z⟩
theorem zCl (Z:Nat):EntryOK Tryz.prog 282 (zs1 Z).te:=okS (fn:=Tryz.f282) (frz:=[]) (ann:=[]) (cuts:=[]) (rv:=[(4,none),(5,none)]) Z (TabOK.of (entCons (zCk Z) entNil) (methNil)) mixed (by kernel_rfl) (by kernel_rfl) (by kernel_rfl) (fun _ => rfl) (fun _ => rfl) (fun _ _ => by kernel_rfl)
end Go.Proofs.YtljojacnjjgceaaGreat.Den
namespace Go.Proofs.YtljojacnjjgceaaGreat.Den
open Go Go.RowKit
def zCm (Z:Nat) (x0:List (List Int)) (x1:List Int) (x2:LP) (x3:Int) (x4:Int) (x5:LP) (x6:Int):Option (((((List (List Int)) × Unit) × Unit) × ((((List Int) × Unit) × Unit) × (((LP × (Int × (Int × Unit))) × Unit) × (((LP × (Int × Unit)) × Unit) × Unit)))) × Unit) :=
 some (((((x0,()),()),((x1,()),()),((x2,x3,x4,()),()),((x5,x6,()),()),()),()))
def zoq (Z:Nat) (z:(SumY × Unit)):Option (((((List (List Int)) × Unit) × Unit) × ((((List Int) × Unit) × Unit) × (((LP × (Int × (Int × Unit))) × Unit) × (((LP × (Int × Unit)) × Unit) × Unit)))) × Unit):=zCm Z z.1.1 z.1.2.1 z.1.2.2.1 z.1.2.2.2.1 z.1.2.2.2.2.1 z.1.2.2.2.2.2.1 z.1.2.2.2.2.2.2.1
abbrev zs2 (Z:Nat):LE:=⟨.pure (.agg (.dat (Kd.list (Kd.list I6)) (.dat (Kd.list I6) (.dat (Kd.list KP) (.dat I6 (.dat I6 (.dat (Kd.list KP) (.dat I6 .nil))))))) .nil) (.agg (.ifc 36 (.agg (.dat (Kd.list (Kd.list I6)) .nil) .nil) (.ifc 38 (.agg (.dat (Kd.list I6) .nil) .nil) (.ifc 41 (.agg (.dat (Kd.list KP) (.dat I6 (.dat I6 .nil))) .nil) (.ifc 44 (.agg (.dat (Kd.list KP) (.dat I6 .nil)) .nil) .nil)))) .nil) false,zoq Z⟩
theorem zCn (Z:Nat):EntryOK Tryz.prog 85 (zs2 Z).te:=okS (fn:=Tryz.f85) (frz:=[]) (ann:=[]) (cuts:=[]) (rv:=[(2,some (4,true))]) Z (TabOK.of (entNil) (methNil)) mixed (by kernel_rfl) (by kernel_rfl) (by kernel_rfl) (fun _ => rfl) (fun _ => rfl) (fun _ _ => by kernel_rfl)
def zCo (Z:Nat) (x0:List (List Int)) (x1:List Int) (x2:LP) (x3:Int) (x4:Int) (x5:LP) (x6:Int):Option (SumY × Unit) :=
 some (((x0,x1,x2,x3,x4,x5,x6,()),()))
def zs3 (Z:Nat) (z:(((((List (List Int)) × Unit) × Unit) × ((((List Int) × Unit) × Unit) × (((LP × (Int × (Int × Unit))) × Unit) × (((LP × (Int × Unit)) × Unit) × Unit)))) × Unit)):Option (SumY × Unit):=zCo Z z.1.1.1.1 z.1.2.1.1.1 z.1.2.2.1.1.1 z.1.2.2.1.1.2.1 z.1.2.2.1.1.2.2.1 z.1.2.2.2.1.1.1 z.1.2.2.2.1.1.2.1
abbrev zs4 (Z:Nat):LE:=⟨.pure (.agg (.ifc 36 (.agg (.dat (Kd.list (Kd.list I6)) .nil) .nil) (.ifc 38 (.agg (.dat (Kd.list I6) .nil) .nil) (.ifc 41 (.agg (.dat (Kd.list KP) (.dat I6 (.dat I6 .nil))) .nil) (.ifc 44 (.agg (.dat (Kd.list KP) (.dat I6 .nil)) .nil) .nil)))) .nil) (.agg (.dat (Kd.list (Kd.list I6)) (.dat (Kd.list I6) (.dat (Kd.list KP) (.dat I6 (.dat I6 (.dat (Kd.list KP) (.dat I6 .nil))))))) .nil) false,zs3 Z⟩
theorem zCp (Z:Nat):EntryOK Tryz.prog 96 (zs4 Z).te:=okS (fn:=Tryz.f96) (frz:=[]) (ann:=[⟨[11,10,3,2],[],[],[]⟩]) (cuts:=[]) (rv:=[(2,some (7,true))]) (Z + 6) (TabOK.of (entNil) (methNil)) mixed (by kernel_rfl) (by kernel_rfl) (by kernel_rfl) (fun _ => rfl) (fun _ => rfl) (fun _ _ => by kernel_rfl)
def zor (Z:Nat) (x0:List (List Int)) (x1:List Int) (x2:LP) (x3:Int) (x4:Int) (x5:LP) (x6:Int) (x7:Int):Option (SumY × ((Bool × Unit) × Unit)) :=
 Option.bind (zoq Z ((x0,x1,x2,x3,x4,x5,x6,()),())) fun y_1 =>
 Option.bind (znC Z ((y_1.1.1.1.1,()),x7,())) fun y_2 =>
 cond (!y_2.2.1)
 (some ((([],[],[],(0:Int),(0:Int),[],(0:Int),()),(false,()),())))
 (Option.bind (znI Z ((y_1.1.2.1.1.1,()),x7,())) fun y_4 =>
 cond (!y_4.2.1)
 (some ((([],[],[],(0:Int),(0:Int),[],(0:Int),()),(false,()),())))
 (Option.bind (zog Z ((y_1.1.2.2.1.1.1,y_1.1.2.2.1.1.2.1,y_1.1.2.2.1.1.2.2.1,()),x7,())) fun y_6 =>
 cond (!y_6.2.1)
 (some ((([],[],[],(0:Int),(0:Int),[],(0:Int),()),(false,()),())))
 (Option.bind (zop Z ((y_1.1.2.2.2.1.1.1,y_1.1.2.2.2.1.1.2.1,()),x7,())) fun y_8 =>
 cond (!y_8.2.1)
 (some ((([],[],[],(0:Int),(0:Int),[],(0:Int),()),(false,()),())))
 (Option.bind (zs3 Z ((((y_2.1.1.1,()),()),((y_4.1.1.1,()),()),((y_6.1.1.1,y_6.1.1.2.1,y_6.1.1.2.2.1,()),()),((y_8.1.1.1,y_8.1.1.2.1,()),()),()),())) fun y_10 =>
 some (((y_10.1.1,y_10.1.2.1,y_10.1.2.2.1,y_10.1.2.2.2.1,y_10.1.2.2.2.2.1,y_10.1.2.2.2.2.2.1,y_10.1.2.2.2.2.2.2.1,()),(true,()),()))))))
def zgG (Z:Nat) (z:(SumY × ((Int × Unit) × Unit))):Option (SumY × ((Bool × Unit) × Unit)):=zor Z z.1.1 z.1.2.1 z.1.2.2.1 z.1.2.2.2.1 z.1.2.2.2.2.1 z.1.2.2.2.2.2.1 z.1.2.2.2.2.2.2.1 z.2.1.1
abbrev zs5 (Z:Nat):LE:=⟨.pure (.agg (.dat (Kd.list (Kd.list I6)) (.dat (Kd.list I6) (.dat (Kd.list KP) (.dat I6 (.dat I6 (.dat (Kd.list KP) (.dat I6 .nil))))))) (.grp (.dat I6 .nil) .nil)) (.agg (.dat (Kd.list (Kd.list I6)) (.dat (Kd.list I6) (.dat (Kd.list KP) (.dat I6 (.dat I6 (.dat (Kd.list KP) (.dat I6 .nil))))))) (.grp (.dat Kd.bool .nil) .nil)) false,zgG Z⟩
theorem zCq (Z:Nat):EntryOK Tryz.prog 84 (zs5 Z).te:=okS (T:=Tab.of [(85,(zs2 Z).te),(96,(zs4 Z).te),(271,(zr9 Z).te),(275,(zsd Z).te),(279,(zsQ Z).te),(282,(zs1 Z).te)] [(36,"loop.example/inkling/impl.with",271),(38,"loop.example/inkling/impl.with",275),(41,"loop.example/inkling/impl.with",279),(44,"loop.example/inkling/impl.with",282)]) (fn:=Tryz.f84) (frz:=[]) (ann:=[⟨[14,13,1,4,6],[],[],[]⟩]) (cuts:=[]) (rv:=[(4,some (7,true)),(5,none)]) (Z + 6) (TabOK.of (entCons (zCn Z) (entCons (zCp Z) (entCons (zAL Z) (entCons (zAV Z) (entCons (zBV Z) (entCons (zCl Z) entNil)))))) (methCons (fun v args w => by kernel_rfl) (methCons (fun v args w => by kernel_rfl) (methCons (fun v args w => by kernel_rfl) (methCons (fun v args w => by kernel_rfl) (methNil)))))) mixed (by kernel_rfl) (by kernel_rfl) (by kernel_rfl) (fun _ => rfl) (fun _ => rfl) (fun _ _ => by kernel_rfl)
def zCr (Z:Nat) :Option (SumY × Unit) :=
 Option.bind (zjG Z ()) fun y_1 =>
 some (((y_1.1.1,[],[],(0:Int),(0:Int),[],(0:Int),()),()))
def zos (Z:Nat) (z:Unit):Option (SumY × Unit):=zCr Z
abbrev zs6 (Z:Nat):LE:=⟨.pure .nil (.agg (.dat (Kd.list (Kd.list I6)) (.dat (Kd.list I6) (.dat (Kd.list KP) (.dat I6 (.dat I6 (.dat (Kd.list KP) (.dat I6 .nil))))))) .nil) false,zos Z⟩
theorem zCs (Z:Nat):EntryOK Tryz.prog 52 (zs6 Z).te:=okS (fn:=Tryz.f52) (frz:=[]) (ann:=[]) (cuts:=[]) (rv:=[(0,some (7,true))]) Z (TabOK.of (entCons (zrZ Z) entNil) (methNil)) mixed (by kernel_rfl) (by kernel_rfl) (by kernel_rfl) (fun _ => rfl) (fun _ => rfl) (fun _ _ => by kernel_rfl)
end Go.Proofs.YtljojacnjjgceaaGreat.Den
