/- Part 7 of the texts behind the row. -/
import Derived.Test.YtdgdoeknpakmlaaGreatB79e2ce877b
import Derived.RangeFuncBox
import Derived.RangeFuncNested
import Derived.RangeFuncBound
import Derived.RangeFuncCalls
import Derived.RangeFuncLeaves
import Derived.Shelf.Abstract
import Derived.Shelf.RegionOpen
import Derived.WalkKit
import Derived.OwnWalkIn
import Derived.TacticsInMore
import Derived.LoopNIn
import Derived.LoopIn
import Derived.Maps.AppendAt
import Derived.Test.YtdgdoeknpakmlaaGreatProg
set_option linter.unusedVariables false
set_option linter.unusedSimpArgs false
namespace Go.Proofs.YtdgdoeknpakmlaaGreat.Den
open Go Go.Proofs Go.RowKit Go.Shelf
attribute [local go_sem] Oper.semAt_some
def headM (a b : List Int) : Int := match a, b with
  | [], [] => 64
  | x :: _, [] => x
  | [], y :: _ => y
  | x :: _, y :: _ => if y < x then y else x
def cutM (m : Int) (a : List Int) : List Int := match a with
  | [] => []
  | x :: r => cond (x == m) r (x :: r)
def mergeM : Nat → List Int → List Int → List Int
  | 0, _, _ => []
  | n + 1, a, b => cond (a.isEmpty && b.isEmpty) [] (headM a b :: mergeM n (cutM (headM a b) a) (cutM (headM a b) b))
namespace Few
def Sl (n₀ : Nat) (W : World) (v : Value) (xs : List Int) : Prop := ∃ (p : Option Addr) (cap : Nat), v = .slice p xs.length cap ∧ xs.length ≤ cap ∧
  (xs = [] ∨ ∃ b o, p = some ⟨b, o, none⟩ ∧ b < n₀ ∧ ∀ j, j < xs.length → W.cell? ⟨b, o + j, none⟩ = some (.int .i64 (xs.getD j 0)))
theorem Sl.below {n₀ : Nat} {A B : World} (h : Below n₀ A B) {v : Value} {xs : List Int} : Sl n₀ A v xs → Sl n₀ B v xs
  | ⟨p, cap, e, hc, .inl h0⟩ => ⟨p, cap, e, hc, .inl h0⟩
  | ⟨p, cap, e, hc, .inr ⟨b, o, hp, hb, hx⟩⟩ => ⟨p, cap, e, hc, .inr ⟨b, o, hp, hb, fun j hj => (h.cell (p := ⟨b, o + j, none⟩) hb).trans (hx j hj)⟩⟩
def lenV : Value → Nat
  | .slice _ n _ => n
  | _ => 0
set_option maxHeartbeats 1000000 in
theorem marks_in (F : Fence) (n : Nat) (h5 : F.fn 164) (hro : F.round = none) (p q : Option Addr) (l m c d : Nat) (w : World) :
    CallsIn F n Tryz.prog 164 #[.slice p l c, .slice q m d] w fun e w' => e = .returned (.func (.func 188) #[] #[.pointer (some ⟨w.heap.size, 0, none⟩), .pointer (some ⟨w.heap.size + 1, 0, none⟩)]) ∧ w' = (w.alloc (.cells #[.slice p l c] 23)).alloc (.cells #[.slice q m d] 23) := by
  refine callsIn_of_wp Tryz.func164 rfl h5 ?_ hro
  simp only [Tryz.ntmps164, List.size_toArray, List.length_cons, List.length_nil, Nat.reduceAdd, Nat.reduceSub, Array.replicate_succ, Array.replicate_zero, List.push_toArray, List.append_toArray, List.nil_append, List.cons_append]
  gi_wp2
  go_ret
  exact ⟨rfl, rfl⟩
theorem zhX : ∀ {f : Nat}, mergeM f [] [] = []
  | 0 => rfl
  | f + 1 => rfl
theorem Sl.zero {n₀ : Nat} {W : World} {p : Option Addr} {xs : List Int} (h : xs.length ≤ 0) : Sl n₀ W (.slice p xs.length 0) xs :=
  ⟨p, 0, rfl, h, .inl (List.length_eq_zero_iff.1 (by omega))⟩
theorem Sl.slice {n₀ : Nat} {W : World} {v : Value} {xs : List Int} (h : Sl n₀ W v xs) : ∃ p c, v = .slice p xs.length c := by
  obtain ⟨p, c, e, _⟩ := h; exact ⟨p, c, e⟩
theorem Sl.cons {n₀ : Nat} {W : World} {v : Value} {x : Int} {xs : List Int} (h : Sl n₀ W v (x :: xs)) : ∃ b o c, v = .slice (some ⟨b, o, none⟩) (xs.length + 1) c ∧ xs.length + 1 ≤ c ∧ b < n₀ ∧ W.cell? ⟨b, o, none⟩ = some (.int .i64 x) ∧
    Sl n₀ W (.slice (some ⟨b, o + 1, none⟩) xs.length (c - 1)) xs := by
  obtain ⟨p, c, e, hc, h⟩ := h
  rcases h with h | ⟨b, o, rfl, hb, hx⟩
  · cases h
  · simp only [List.length_cons] at hc hx
    refine ⟨b, o, c, e, hc, hb, hx 0 (by omega), _, _, rfl, by omega, ?_⟩
    cases xs with
    | nil => exact .inl rfl
    | cons y ys => exact .inr ⟨b, o + 1, rfl, hb, fun j hj => by
        have := hx (j + 1) (by omega)
        rw [show o + (j + 1) = o + 1 + j from by omega, List.getD_cons_succ] at this
        exact this⟩
set_option maxRecDepth 100000 in
set_option maxHeartbeats 4000000 in
theorem iter1_in (F : Fence) (n : Nat) (h6 : F.fn 188) (hro : F.round = none) (hn : 1 ≤ n) (l Ba Bb n₀ : Nat) (va vb : Value) (a b : List Int) (ha : ∀ x ∈ a, x ≤ 63) (hb : ∀ x ∈ b, x ≤ 63) (hla : a.length ≤ 6) (hlb : b.length ≤ 6) (J Jx : List Int → World → Prop) (hJd : ∀ {s W}, J s W → J s W.drew)
    (hY : ∀ pre x W, J pre W → pre.length < 12 → YieldAt F (n - 1) Tryz.prog l #[.int .i64 x] W fun e W' =>
      (e = .returned (.bool true) ∧ J (pre ++ [x]) W' ∧ Below n₀ W W') ∨ (e = .returned (.bool false) ∧ Jx (pre ++ [x]) W'))
    (W : World) (hBa : W.cell? ⟨Ba, 0, none⟩ = some va) (hBb : W.cell? ⟨Bb, 0, none⟩ = some vb) (hA : Sl n₀ W va a) (hB : Sl n₀ W vb b) (h0 : J [] W) :
    CallsIn F n Tryz.prog 188 #[.func (.yield l) #[] #[], .pointer (some ⟨Ba, 0, none⟩), .pointer (some ⟨Bb, 0, none⟩)] W fun e W' => (∃ v, e = .returned v) ∧
      ((∃ ys, ys = mergeM 12 a b ∧ J ys W') ∨ (∃ pre, pre <+: mergeM 12 a b ∧ Jx pre W')) := by
  refine callsIn_of_wp Tryz.func188 rfl h6 ?_ hro
  simp only [Tryz.ntmps188, List.size_toArray, List.length_cons, List.length_nil, Nat.reduceAdd, Nat.reduceSub, Array.replicate_succ, Array.replicate_zero, List.push_toArray, List.append_toArray, List.nil_append, List.cons_append]
  obtain ⟨pa, ca, rfl⟩ := hA.slice
  obtain ⟨pb, cb, rfl⟩ := hB.slice
  have hA' : Sl n₀ W.drew (.slice pa a.length ca) a := hA
  have hB' : Sl n₀ W.drew (.slice pb b.length cb) b := hB
  have h0' : J [] W.drew := hJd h0
  gi_wp2
  gi_region
  all_goals gi_wp2
  all_goals (
    gi_loopw [4, 5] (fun u v wr => ∃ (pre xs ys : List Int) (f : Nat), Sl n₀ wr u xs ∧ Sl n₀ wr v ys ∧ xs.length + ys.length ≤ f ∧ (∀ x ∈ xs, x ≤ 63) ∧ (∀ y ∈ ys, y ≤ 63) ∧ mergeM 12 a b = pre ++ mergeM f xs ys ∧ pre.length + f = 12 ∧ J pre wr) (fun u v _ => lenV u + lenV v)
    case atStart => exact ⟨[], a, b, 12, hA', hB', by omega, ha, hb, rfl, rfl, h0'⟩
    case round =>
      obtain ⟨pre, xs, ys, f, hu, hv, hfl, hxs, hys, hm, hf, hJs⟩ := hrel
      cases xs with
      | nil =>
       obtain ⟨p1, c1, rfl⟩ := hu.slice
       cases ys with
       | nil =>
        obtain ⟨p2, c2, rfl⟩ := hv.slice
        gi_wp2
        go_end0
        exact ⟨⟨_, rfl⟩, .inl ⟨_, rfl, by rw [hm, zhX, List.append_nil]; exact hJs⟩⟩
       | cons y r =>
        obtain ⟨b2, o2, c2, rfl, hc2, hb2, hy0, hv'⟩ := hv.cons
        have hy63 := hys y (List.mem_cons_self ..)
        have hxs' := hxs
        have hys' := fun z hz => hys z (List.mem_cons_of_mem y hz)
        obtain ⟨f, rfl⟩ : ∃ g, f = g + 1 := ⟨f - 1, by simp only [List.length_nil, List.length_cons] at hfl; omega⟩
        have he : mergeM (f + 1) [] (y :: r) = y :: mergeM f [] r := by
          show cond _ _ _ = _
          simp [headM, cutM]
        obtain ⟨fn, tmps, assign, body, hy, hRd⟩ := hY pre y wr hJs (by omega)
        gi_wp2
        all_goals (
          refine hRd.mono ?_
          rintro e W3 (⟨rfl, hJ3, hk3⟩ | ⟨rfl, hJx3⟩)
          · gi_wp2
            go_roundw
            case rel => exact ⟨pre ++ [y], [], r, f, by first | exact hu.below hk3, by first | exact hv'.below hk3 | exact Sl.zero (by omega), by simp only [List.length_nil, List.length_cons] at hfl ⊢; omega, hxs', hys', by rw [hm, he]; simp, by simp; omega, hJ3⟩
            case measure => simp [lenV] <;> omega
          · gi_wp2
            refine bodyPost_ret (results_none rfl _ _ _) rfl ?_
            exact ⟨⟨_, rfl⟩, .inr ⟨pre ++ [y], ⟨mergeM f [] r, by rw [hm, he]; simp⟩, hJx3⟩⟩)
      | cons x r =>
       obtain ⟨b1, o1, c1, rfl, hc1, hb1, hx0, hu'⟩ := hu.cons
       have hx63 := hxs x (List.mem_cons_self ..)
       have hxc := fun z hz => hxs z (List.mem_cons_of_mem x hz)
       cases ys with
       | nil =>
        obtain ⟨p2, c2, rfl⟩ := hv.slice
        have hxs' := hxc
        have hys' := hys
        obtain ⟨f, rfl⟩ : ∃ g, f = g + 1 := ⟨f - 1, by simp only [List.length_nil, List.length_cons] at hfl; omega⟩
        have he : mergeM (f + 1) (x :: r) [] = x :: mergeM f r [] := by
          show cond _ _ _ = _
          simp [headM, cutM]
        obtain ⟨fn, tmps, assign, body, hy, hRd⟩ := hY pre x wr hJs (by omega)
        gi_wp2
        all_goals (
          refine hRd.mono ?_
          rintro e W3 (⟨rfl, hJ3, hk3⟩ | ⟨rfl, hJx3⟩)
          · gi_wp2
            go_roundw
            case rel => exact ⟨pre ++ [x], r, [], f, by first | exact hu'.below hk3 | exact Sl.zero (by omega), by first | exact hv.below hk3, by simp only [List.length_nil, List.length_cons] at hfl ⊢; omega, hxs', hys', by rw [hm, he]; simp, by simp; omega, hJ3⟩
            case measure => simp [lenV] <;> omega
          · gi_wp2
            refine bodyPost_ret (results_none rfl _ _ _) rfl ?_
            exact ⟨⟨_, rfl⟩, .inr ⟨pre ++ [x], ⟨mergeM f r [], by rw [hm, he]; simp⟩, hJx3⟩⟩)
       | cons y s =>
        obtain ⟨b2, o2, c2, rfl, hc2, hb2, hy0, hv'⟩ := hv.cons
        have hy63 := hys y (List.mem_cons_self ..)
        have hyc := fun z hz => hys z (List.mem_cons_of_mem y hz)
        obtain ⟨f, rfl⟩ : ∃ g, f = g + 1 := ⟨f - 1, by simp only [List.length_nil, List.length_cons] at hfl; omega⟩
        rcases Int.lt_trichotomy x y with hlt | heq | hgt
        · have hxs' := hxc
          have hys' := hys
          have n1 : ¬ y < x := by omega
          have n2 : (y == x) = false := by simpa using (by omega : y ≠ x)
          have he : mergeM (f + 1) (x :: r) (y :: s) = x :: mergeM f r (y :: s) := by
            show cond _ _ _ = _
            simp [headM, cutM, n1, n2]
          obtain ⟨fn, tmps, assign, body, hy, hRd⟩ := hY pre x wr hJs (by omega)
          gi_wp2
          all_goals (
            refine hRd.mono ?_
            rintro e W3 (⟨rfl, hJ3, hk3⟩ | ⟨rfl, hJx3⟩)
            · gi_wp2
              go_roundw
              case rel => exact ⟨pre ++ [x], r, (y :: s), f, by first | exact hu'.below hk3 | exact Sl.zero (by omega), by first | exact hv.below hk3, by simp only [List.length_nil, List.length_cons] at hfl ⊢; omega, hxs', hys', by rw [hm, he]; simp, by simp; omega, hJ3⟩
              case measure => simp [lenV] <;> omega
            · gi_wp2
              refine bodyPost_ret (results_none rfl _ _ _) rfl ?_
              exact ⟨⟨_, rfl⟩, .inr ⟨pre ++ [x], ⟨mergeM f r (y :: s), by rw [hm, he]; simp⟩, hJx3⟩⟩)
        · subst heq
          have hxs' := hxc
          have hys' := hyc
          have he : mergeM (f + 1) (x :: r) (x :: s) = x :: mergeM f r s := by
            show cond _ _ _ = _
            simp [headM, cutM]
          obtain ⟨fn, tmps, assign, body, hy, hRd⟩ := hY pre x wr hJs (by omega)
          gi_wp2
          all_goals (
            refine hRd.mono ?_
            rintro e W3 (⟨rfl, hJ3, hk3⟩ | ⟨rfl, hJx3⟩)
            · gi_wp2
              go_roundw
              case rel => exact ⟨pre ++ [x], r, s, f, by first | exact hu'.below hk3 | exact Sl.zero (by omega), by first | exact hv'.below hk3 | exact Sl.zero (by omega), by simp only [List.length_nil, List.length_cons] at hfl ⊢; omega, hxs', hys', by rw [hm, he]; simp, by simp; omega, hJ3⟩
              case measure => simp [lenV] <;> omega
            · gi_wp2
              refine bodyPost_ret (results_none rfl _ _ _) rfl ?_
              exact ⟨⟨_, rfl⟩, .inr ⟨pre ++ [x], ⟨mergeM f r s, by rw [hm, he]; simp⟩, hJx3⟩⟩)
        · have hxs' := hxs
          have hys' := hyc
          have n1 : y < x := hgt
          have n2 : (x == y) = false := by simpa using (by omega : x ≠ y)
          have he : mergeM (f + 1) (x :: r) (y :: s) = y :: mergeM f (x :: r) s := by
            show cond _ _ _ = _
            simp [headM, cutM, n1, n2]
          obtain ⟨fn, tmps, assign, body, hy, hRd⟩ := hY pre y wr hJs (by omega)
          gi_wp2
          all_goals (
            refine hRd.mono ?_
            rintro e W3 (⟨rfl, hJ3, hk3⟩ | ⟨rfl, hJx3⟩)
            · gi_wp2
              go_roundw
              case rel => exact ⟨pre ++ [y], (x :: r), s, f, by first | exact hu.below hk3, by first | exact hv'.below hk3 | exact Sl.zero (by omega), by simp only [List.length_nil, List.length_cons] at hfl ⊢; omega, hxs', hys', by rw [hm, he]; simp, by simp; omega, hJ3⟩
              case measure => simp [lenV] <;> omega
            · gi_wp2
              refine bodyPost_ret (results_none rfl _ _ _) rfl ?_
              exact ⟨⟨_, rfl⟩, .inr ⟨pre ++ [y], ⟨mergeM f (x :: r) s, by rw [hm, he]; simp⟩, hJx3⟩⟩))
end Few
end Go.Proofs.YtdgdoeknpakmlaaGreat.Den
namespace Go.Proofs.YtdgdoeknpakmlaaGreat.Den
open Go Go.Proofs Go.RowKit Go.Shelf
attribute [local go_sem] Oper.semAt_some
def leastL (a b : List Int) : List Int := (mergeM 12 a b).take 6
def leastOK (a b : List Int) : Bool := decide (a.length ≤ 6) && (decide (b.length ≤ 6) && (a.all (fun x => decide (x ≤ 63)) && b.all fun x => decide (x ≤ 63)))
namespace Few
theorem info3 : (Tryz.prog.info? 3).map (fun i => (i.zero, i.size, i.bytes)) = some (some (.int .i64 0), 1, 8) := by kernel_rfl
theorem stops (F : Fence) (n : Nat) (h6 : F.fn 188) (hro : F.round = none) (hn : 1 ≤ n) (Ba Bb n₀ : Nat) (va vb : Value) (a b : List Int) (ha : ∀ x ∈ a, x ≤ 63) (hb : ∀ x ∈ b, x ≤ 63) (hla : a.length ≤ 6) (hlb : b.length ≤ 6) (w : World) (hBa : Ba < w.heap.size) (hBb : Bb < w.heap.size) (hn₀ : n₀ ≤ w.heap.size)
    (hca : w.cell? ⟨Ba, 0, none⟩ = some va) (hcb : w.cell? ⟨Bb, 0, none⟩ = some vb) (hA : Sl n₀ w va a) (hB : Sl n₀ w vb b) :
    SeqStopsK F n Tryz.prog 188 #[.pointer (some ⟨Ba, 0, none⟩), .pointer (some ⟨Bb, 0, none⟩)] (fun x : Int => #[Value.int .i64 x]) (Below n₀) (fun ys => ys = mergeM 12 a b) (fun pre => pre <+: mergeM 12 a b) 12 w := fun l J Jx W hW hJ _ hY h0 =>
  iter1_in F n h6 hro hn l Ba Bb n₀ va vb a b ha hb hla hlb J Jx (fun {s W1} h => hJ s W1 W1.drew none h ⟨rfl, rfl, rfl, Nat.le_refl _, fun _ _ _ => rfl⟩ (fun r e => by cases e)) hY W
    ((hW.cell (p := ⟨Ba, 0, none⟩) hBa).trans hca) ((hW.cell (p := ⟨Bb, 0, none⟩) hBb).trans hcb) (hA.below (hW.mono hn₀)) (hB.below (hW.mono hn₀)) h0
theorem zCn {w : World} {base base' size n : Nat} {e : TypeId} {v : Value} {xs : List Value} (h : w.ownsRow base e size v n xs) (hb : base' ≤ base) : w.ownsRow base' e size v n xs := by
  refine ⟨h.1, ?_⟩
  rcases h.2 with h | ⟨g, cap, cur, h1, h2, h3⟩
  · exact .inl h
  · exact .inr ⟨g, cap, cur, h1, Nat.le_trans hb h2, h3⟩
set_option maxRecDepth 100000 in
set_option maxHeartbeats 4000000 in
theorem least_in (F : Fence) (n : Nat) (h3 : F.fn 113) (h4 : F.fn 164) (h5 : F.fn 188) (hro : F.round = none) (hn : 3 ≤ n) (va vb : Value) (a b : List Int) (ha : ∀ x ∈ a, x ≤ 63) (hb : ∀ x ∈ b, x ≤ 63) (hla : a.length ≤ 6) (hlb : b.length ≤ 6) (w : World)
    (hA : Sl w.heap.size w va a) (hB : Sl w.heap.size w vb b) :
    CallsIn F n Tryz.prog 113 #[va, vb] w fun e W' => ∃ v, e = .returned (.agg #[v]) ∧ W'.ownsRow w.heap.size 3 1 v ((mergeM 12 a b).take 6).length (((mergeM 12 a b).take 6).map (Value.int .i64)) ∧ Below w.heap.size w W' := by
  have h1 : 1 ≤ n := by omega
  obtain ⟨i0, hi, hz0, hz1, hz2⟩ := info_parts info3
  obtain ⟨pa, ca, rfl⟩ := hA.slice
  obtain ⟨pb, cb, rfl⟩ := hB.slice
  refine callsIn_of_wp_marks Tryz.func113 rfl h3 ?_ hro
  simp only [Tryz.ntmps113, List.size_toArray, List.length_cons, List.length_nil, Nat.reduceAdd, Nat.reduceSub, Array.replicate_succ, Array.replicate_zero, List.push_toArray, List.append_toArray, List.nil_append, List.cons_append]
  have hmk : (Instr.makeSlice 23 (.int .i64 0) (.int .i64 6)).run Tryz.prog (w.alloc (.cells #[.slice none 0 0] 29)) = .ok (.slice (some ⟨w.heap.size + 1, 0, none⟩) 0 6) ((w.alloc (.cells #[.slice none 0 0] 29)).alloc (.cells (madeCells #[.int .i64 0] 6) 3)) := by
    have := run_makeSlice (P := Tryz.prog) (w := w.alloc (.cells #[.slice none 0 0] 29)) 23 3 i0 (.int .i64 0) Tryz.underlying23 hi hz0 .i64 .i64 0 6 (by omega) (by omega) (by rw [hz1]; decide) (by rw [hz2]; decide) (by omega)
    rw [World.size_alloc, hz1] at this
    exact this
  gi_wp2_with (gi_at_call 164; refine (marks_in F (n - 1) h4 hro _ _ _ _ _ _ _).mono ?_; rintro e w' ⟨rfl, rfl⟩)
  obtain ⟨W5, hW5⟩ : ∃ W5, (((((w.alloc (.cells #[.slice none 0 0] 29)).alloc (.cells (madeCells #[.int .i64 0] 6) 3)).alloc (.cells #[.slice (some ⟨w.heap.size + 1, 0, none⟩) 0 6] 23)).alloc (.cells #[.slice pa a.length ca] 23)).alloc (.cells #[.slice pb b.length cb] 23)) = W5 := ⟨_, rfl⟩
  have sz : W5.heap.size = w.heap.size + 5 := by rw [← hW5]; simp
  have k1 : Boxed W5 w.heap.size 29 (.slice none 0 0) := by rw [← hW5]; exact ((((Boxed.new w 29 _).alloc _).alloc _).alloc _).alloc _
  have k2 : W5.ownsRow (w.heap.size + 1) 3 1 (.slice (some ⟨w.heap.size + 1, 0, none⟩) 0 6) 0 [] := by
    have h := World.ownsRow_made (base := w.heap.size + 1) (size := 1) (e := 3) (w.alloc (.cells #[.slice none 0 0] 29)) (madeCells #[.int .i64 0] 6) 6 (by simp) (by decide) (size_madeCells _ _)
    rw [World.size_alloc] at h
    rw [← hW5]
    exact ((h.alloc _).alloc _).alloc _
  have k3 : Boxed W5 (w.heap.size + 2) 23 (.slice (some ⟨w.heap.size + 1, 0, none⟩) 0 6) := by
    have h := Boxed.new ((w.alloc (.cells #[.slice none 0 0] 29)).alloc (.cells (madeCells #[.int .i64 0] 6) 3)) 23 (.slice (some ⟨w.heap.size + 1, 0, none⟩) 0 6)
    simp only [World.size_alloc] at h
    rw [← hW5]
    exact (h.alloc _).alloc _
  have k4 : Boxed W5 (w.heap.size + 3) 23 (.slice pa a.length ca) := by
    have h := Boxed.new (((w.alloc (.cells #[.slice none 0 0] 29)).alloc (.cells (madeCells #[.int .i64 0] 6) 3)).alloc (.cells #[.slice (some ⟨w.heap.size + 1, 0, none⟩) 0 6] 23)) 23 (.slice pa a.length ca)
    simp only [World.size_alloc] at h
    rw [← hW5]
    exact h.alloc _
  have k5 : Boxed W5 (w.heap.size + 4) 23 (.slice pb b.length cb) := by
    have h := Boxed.new ((((w.alloc (.cells #[.slice none 0 0] 29)).alloc (.cells (madeCells #[.int .i64 0] 6) 3)).alloc (.cells #[.slice (some ⟨w.heap.size + 1, 0, none⟩) 0 6] 23)).alloc (.cells #[.slice pa a.length ca] 23)) 23 (.slice pb b.length cb)
    simp only [World.size_alloc] at h
    rw [← hW5]
    exact h
  have hB0 : Below w.heap.size w W5 := by
    rw [← hW5]
    exact (((((Below.refl _ w).alloc (Nat.le_refl _) _).alloc (by simp) _).alloc (by simp; omega) _).alloc (by simp; omega) _).alloc (by simp; omega) _
  rw [hW5]
  refine wpIn_rangeFunc_ownG hro h1 (gf := 188) (lb := #[.pointer (some ⟨w.heap.size + 3, 0, none⟩), .pointer (some ⟨w.heap.size + 4, 0, none⟩)]) rfl h5 (enters_of Tryz.func188 (by kernel_rfl) rfl)
    (stops F (n - 1) h5 hro (by omega) (w.heap.size + 3) (w.heap.size + 4) w.heap.size _ _ a b ha hb hla hlb W5 (by omega) (by omega) (by omega) k4.cell k5.cell (hA.below hB0) (hB.below hB0)) belowK_t (belowK_b (by omega)) (Below.refl _ _) (fun _ => rfl)
    (fun pre W => (∃ v, Boxed W (w.heap.size + 2) 23 v ∧ W.ownsRow (w.heap.size + 1) 3 1 v (pre.take 6).length ((pre.take 6).map (Value.int .i64)) ∧ pre.length ≤ 6) ∧ Boxed W w.heap.size 29 (.slice none 0 0) ∧ Below w.heap.size w W)
    (fun c pre W => ((∃ v, Boxed W (w.heap.size + 2) 23 v ∧ W.ownsRow (w.heap.size + 1) 3 1 v (pre.take 6).length ((pre.take 6).map (Value.int .i64)) ∧ (c = Code.exit 0 ∧ 6 < pre.length)) ∧ Boxed W w.heap.size 29 (.slice none 0 0) ∧ Below w.heap.size w W))
    (OwnFrom.and (Own.from (holdsRow_own (w.heap.size + 1) (w.heap.size + 2) 23 3 1 (fun pre : List Int => (pre.take 6).length) (fun pre => (pre.take 6).map (Value.int .i64)) (fun pre v => pre.length ≤ 6)) _) (OwnFrom.and (Own.from (boxed_own _ _ _) _) (ownFrom_below (Nat.le_refl _) (by omega))))
    (fun c => OwnFrom.and (Own.from (holdsRow_own (w.heap.size + 1) (w.heap.size + 2) 23 3 1 (fun pre : List Int => (pre.take 6).length) (fun pre => (pre.take 6).map (Value.int .i64)) (fun pre v => c = Code.exit 0 ∧ 6 < pre.length)) _) (OwnFrom.and (Own.from (boxed_own _ _ _) _) (ownFrom_below (Nat.le_refl _) (by omega))))
    ⟨⟨_, k3, k2, by simp⟩, k1, hB0⟩
    (fun x => { tmps := #[.slice pa a.length ca, .slice pb b.length cb, undef, undef, .pointer (some ⟨w.heap.size, 0, none⟩), .pointer (some ⟨w.heap.size + 2, 0, none⟩), .int .i64 x, .slice (some ⟨w.heap.size + 1, 0, none⟩) 0 6, .slice pa a.length ca, .slice pb b.length cb,
      .func (.func 188) #[] #[.pointer (some ⟨w.heap.size + 3, 0, none⟩), .pointer (some ⟨w.heap.size + 4, 0, none⟩)], .int .i64 x, undef, undef, undef, undef, undef, undef, undef, undef, undef], defers := [] }) ?assign ?body ?done ?stop
  case assign =>
    intro l x W K hK
    gi_wp2
    exact hK
  case body =>
    rintro l pre x W ⟨⟨v, hv, hrow, hp6⟩, hb29, hB⟩ hlt
    have htk : pre.take 6 = pre := List.take_of_length_le hp6
    rw [htk] at hrow
    obtain ⟨q, cq, rfl⟩ : ∃ q cq, v = .slice q pre.length cq := by
      rcases hrow.2 with ⟨rfl, h0⟩ | ⟨g, cap, cur, rfl, _⟩
      · exact ⟨none, 0, by rw [h0]⟩
      · exact ⟨_, _, rfl⟩
    have hc := hv.cell
    gi_wp2_with (gi_at_builtin; refine wpListIn_append_own _ rfl _ _ 23 rfl (w.heap.size + 1) 3 i0 (.int .i64 0) 1 8 Tryz.underlying23 hi hz0 hz1 hz2 rfl (by decide) _ _ _ rfl (hrow.alloc _) ⟨W.heap.size, 0, none⟩ 1 1 [.int .i64 x] rfl rfl (cell_one_new _ _ _) (by simp [Value.oneCell']) (by simp [maxLen]; omega) (by omega) (by have := hB.size; have := hv.lt; simp; omega) ?_; intro v' w1 hown' hgrow _; obtain ⟨g', cap', rfl⟩ := ownsRow_succ hown'; obtain ⟨hv1, hv2, hr2, hk2, hb2⟩ := hv.appended (by decide) hrow (by have := hv.lt; omega) (by omega) hown' hgrow; have hc1 := hv1.cell; have hf1 := hv1.frozen)
    · have h6 : pre.length = 6 := by first | omega | (simp only [beq_iff_eq] at *; omega)
      have e6 : (pre ++ [x]).take 6 = pre := by rw [← h6, List.take_left]
      exact ⟨KeepsFrom.refl _ _, ⟨_, hv, by rw [e6]; exact hrow, rfl, by simp; omega⟩, hb29, hB⟩
    · have h6 : pre.length < 6 := by first | omega | (simp only [beq_eq_false_iff_ne, ne_eq] at *; omega)
      have e6 : (pre ++ [x]).take 6 = pre ++ [x] := List.take_of_length_le (by simp; omega)
      exact ⟨hk2.from _, hb2.mono (by omega), ⟨_, hv2, by rw [e6]; simpa using hr2, by simp; omega⟩, (hb2.block _ (by omega)).trans hb29, hB.trans (hb2.mono (by omega))⟩
  case done =>
    rintro D ys W hD rfl ⟨⟨v, hv, hrow, hp6⟩, hb29, hB⟩ hK
    obtain ⟨q, m, cq, rfl⟩ : ∃ q m cq, v = .slice q m cq := by
      rcases hrow.2 with ⟨rfl, h0⟩ | ⟨g, cap, cur, rfl, _⟩ <;> exact ⟨_, _, _, rfl⟩
    have hc := hv.cell
    have hc29 := hb29.cell
    have hf29 := hb29.frozen
    gi_wp2
    have hK' := (KeepsOthers.setCell W ⟨w.heap.size, 0, none⟩ (.slice q m cq)).same D _ hK rfl
    refine ⟨by simp, .inl ⟨_, _, rfl, run_takeDeferred hK', ?_⟩⟩
    have hc5 := cell_kept (World.cell?_setCell_same' W ⟨w.heap.size, 0, none⟩ (.slice q m cq) (by rw [hc29]; rfl)) (grownBy_putObj' _ D (.deferred none)) (fun r e => by cases e; exact ⟨_, hK', rfl⟩)
    refine ⟨.agg #[.slice q m cq], ?_, _, rfl, ?_, (hB.setCell (p := ⟨w.heap.size, 0, none⟩) (Nat.le_refl _) _).trans (belowK_b (w := w) (Nat.le_refl _) _ D _ _ (by omega) hK' rfl rfl)⟩
    · simp [results, Tryz.f113, go_sem, hc5]
    · exact zCn (ownsRow_putObj (ownsRow_setCell_below hrow (by show w.heap.size < _; omega) _) _ hK' rfl) (by omega)
  case stop =>
    rintro D c pre W hD hpre ⟨⟨v, hv, hrow, rfl, hp6⟩, hb29, hB⟩ hK
    obtain ⟨q, m, cq, rfl⟩ : ∃ q m cq, v = .slice q m cq := by
      rcases hrow.2 with ⟨rfl, h0⟩ | ⟨g, cap, cur, rfl, _⟩ <;> exact ⟨_, _, _, rfl⟩
    have hc := hv.cell
    have hc29 := hb29.cell
    have hf29 := hb29.frozen
    obtain ⟨t, ht⟩ := hpre
    have e6 : pre.take 6 = (mergeM 12 a b).take 6 := by rw [← ht, List.take_append_of_le_length (by omega)]
    rw [e6] at hrow
    gi_wp2
    have hK' := (KeepsOthers.setCell W ⟨w.heap.size, 0, none⟩ (.slice q m cq)).same D _ hK rfl
    refine ⟨by simp, .inl ⟨_, _, rfl, run_takeDeferred hK', ?_⟩⟩
    have hc5 := cell_kept (World.cell?_setCell_same' W ⟨w.heap.size, 0, none⟩ (.slice q m cq) (by rw [hc29]; rfl)) (grownBy_putObj' _ D (.deferred none)) (fun r e => by cases e; exact ⟨_, hK', rfl⟩)
    refine ⟨.agg #[.slice q m cq], ?_, _, rfl, ?_, (hB.setCell (p := ⟨w.heap.size, 0, none⟩) (Nat.le_refl _) _).trans (belowK_b (w := w) (Nat.le_refl _) _ D _ _ (by omega) hK' rfl rfl)⟩
    · simp [results, Tryz.f113, go_sem, hc5]
    · exact zCn (ownsRow_putObj (ownsRow_setCell_below hrow (by show w.heap.size < _; omega) _) _ hK' rfl) (by omega)
theorem Sl.of {w : World} {B : Nat → Prop} {n₀ : Nat} (hB : ∀ b, B b → b < n₀) {xs : List Int} {u : Value} (h : CRel w B (Kd.list (.int .i64)) xs [u]) : Sl n₀ w u xs := by
  simp only [CRel] at h
  obtain ⟨a, c, e, hc, hx⟩ := h
  simp only [List.cons.injEq, and_true] at e
  refine ⟨a, c, e, hc, ?_⟩
  cases xs with
  | nil => exact .inl rfl
  | cons x r =>
    obtain ⟨ad, rfl, hb, hg⟩ := hx (by simp)
    have cellAt : ∀ i, i < (x :: r).length → w.cell? (ad.add i) = some (.int .i64 ((x :: r).getD i 0)) := fun i hi => by
      obtain ⟨es, h1, h2⟩ := hg i ((x :: r)[i]) (List.getElem?_eq_getElem hi)
      subst h1
      have := h2 0 (.int .i64 ((x :: r)[i])) rfl
      simp only [Kd.sz, Nat.mul_one, Nat.add_zero] at this
      rw [this, List.getD_eq_getElem?_getD, List.getElem?_eq_getElem hi]; rfl
    have c0 := cellAt 0 (by simp)
    have sp : ad.spot = none := by
      cases hs : ad.spot with
      | none => rfl
      | some k =>
        exfalso
        have : w.cell? (ad.add 0) = none := by
          simp only [Addr.add, if_true, World.cell?, hs, Option.isSome_some]
          split <;> rfl
        rw [this] at c0; cases c0
    obtain ⟨b, o, t⟩ := ad
    obtain rfl : t = none := sp
    refine .inr ⟨b, o, rfl, hB b hb, fun j hj => ?_⟩
    have := cellAt j hj
    unfold Addr.add at this
    split at this
    · rename_i h0; subst h0; exact this
    · exact this
end Few
abbrev zDG : List Pm := [{ cs := [(Kd.list (.int .i64), false)], ag := false }, { cs := [(Kd.list (.int .i64), false)], ag := false }]
abbrev zDH : List Pm := [{ cs := [(Kd.list (.int .i64), true)], ag := true }]
def zmv (fuel : Nat) (x : ((List Int) × Unit) × (((List Int) × Unit) × Unit)) : Option (((List Int) × Unit) × Unit) := cond (leastOK x.1.1 x.2.1.1) (some ((leastL x.1.1 x.2.1.1, ()), ())) none
def zmw (fuel : Nat) : TF := ⟨zDG, zDH, true, zmv fuel⟩
theorem zDI (fuel : Nat) : FnSpec Tryz.prog 113 (zmw fuel) := by
  intro w res vs x y hres hps hfn
  obtain ⟨⟨a, ⟨⟩⟩, ⟨b, ⟨⟩⟩, ⟨⟩⟩ := x
  obtain ⟨v0, vs0, rfl, ⟨u0, us0, e0, h0, e0'⟩, v1, vs1, rfl, ⟨u1, us1, e1, h1, e1'⟩, rfl⟩ := hps
  obtain rfl : us0 = [] := e0'
  obtain rfl : us1 = [] := e1'
  simp only [List.cons.injEq, and_true] at e0 e1
  subst e0 e1
  have hfn' : cond (leastOK a b) (some ((leastL a b, ()), ())) none = some y := hfn
  cases hok : leastOK a b with
  | false => rw [hok] at hfn'; cases hfn'
  | true =>
    rw [hok, cond_true] at hfn'
    obtain rfl : ((leastL a b, ()), ()) = y := Option.some.inj hfn'
    unfold leastOK at hok
    simp only [Bool.and_eq_true, decide_eq_true_eq, List.all_eq_true] at hok
    obtain ⟨l1, l2, g1, g2⟩ := hok
    have hA : Few.Sl w.heap.size w v0 a := Few.Sl.of (fun b hb => hb.1) h0
    have hB : Few.Sl w.heap.size w v1 b := Few.Sl.of (fun b hb => hb.1) h1
    refine (callsIn_wide.1 (Few.least_in Fence.wide 3 trivial trivial trivial rfl (Nat.le_refl _) v0 v1 a b g1 g2 l1 l2 w hA hB)).mono ?_
    rintro e w' ⟨v, rfl, hrow, hbel⟩
    have hlen : ((mergeM 12 a b).take 6).length = (leastL a b).length := rfl
    rcases hrow.2 with ⟨rfl, hz⟩ | ⟨g, cap, cur, rfl, hg, hheap, hnc, hcm, hcs, hxs⟩
    · refine ⟨#[.agg #[.slice none 0 0]], [], rfl, hbel.os, hbel.tape, hbel.output, hbel.size, hbel.block, List.nodup_nil, fun b hb => (by cases hb), ?_⟩
      have he : leastL a b = [] := List.length_eq_zero_iff.1 hz
      exact ⟨.agg #[.slice none 0 0], [], [], [], rfl, rfl, ⟨#[.slice none 0 0], rfl, ⟨_, [], [], [], rfl, rfl, .inl ⟨rfl, he, none, rfl⟩, rfl, rfl⟩⟩, rfl, rfl⟩
    · have hgl : g < w'.heap.size := (Array.getElem?_eq_some_iff.1 hheap).1
      refine ⟨#[.agg #[.slice (some ⟨g, 0, none⟩) (leastL a b).length cap]], [g], rfl, hbel.os, hbel.tape, hbel.output, hbel.size, hbel.block, by simp, fun b hb => ?_, ?_⟩
      · rcases List.mem_singleton.1 hb with rfl
        exact ⟨hg, hgl⟩
      · refine ⟨.agg #[.slice (some ⟨g, 0, none⟩) (leastL a b).length cap], [], [g], [], rfl, rfl, ⟨_, rfl, ⟨_, [], [g], [], rfl, rfl, .inr ⟨g, 0, cap, cur, 3, rfl, rfl, hnc, hheap, by rw [hcs]; simp [Kd.sz], ?_⟩, rfl, rfl⟩⟩, rfl, rfl⟩
        intro i z hz
        refine ⟨[.int .i64 z], rfl, fun j u hu => ?_⟩
        cases j with
        | succ j => simp at hu
        | zero =>
          simp only [List.getElem?_cons_zero, Option.some.injEq] at hu
          subst hu
          have hi : i < (leastL a b).length := (List.getElem?_eq_some_iff.1 hz).1
          have h2 : (cur.toList.take ((leastL a b).length * 1))[i]? = ((leastL a b).map (Value.int .i64))[i]? := by rw [show cur.toList.take ((leastL a b).length * 1) = (leastL a b).map (Value.int .i64) from hxs]
          rw [List.getElem?_take_of_lt (by omega), List.getElem?_map, hz, Array.getElem?_toList] at h2
          simpa [Kd.sz] using h2
theorem zDJ (fuel : Nat) : EntryOK Tryz.prog 113 (zmw fuel).te := EntryOK.tf rfl (zDI fuel) (isFn (fn := Tryz.f113) (by kernel_rfl) (by kernel_rfl) (by kernel_rfl))
end Go.Proofs.YtdgdoeknpakmlaaGreat.Den
