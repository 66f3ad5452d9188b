/- What sums tell of a thing: both readings of each say the same plain thing. -/
import Derived.Test.YtjnkefbdpcbkmaaQS3
namespace Go.Proofs.Ytjnkefbdpcbkmaa.Den
open Go
set_option linter.unusedVariables false
set_option linter.unusedSimpArgs false

def thingB (t : Int) : Bool := decide (0 ≤ t ∧ t ≤ 63)
theorem thing_eq (f : Nat) (n : Int) : impl_isThing_fn f ((n, ()), ()) = some ((thingB n, ()), ()) := isThing_eq f n
theorem thing_in (f : Nat) (n : Int) : spec_l6In_fn f ((n, ()), ((0 : Int), ()), ((63 : Int), ()), ()) = some ((thingB n, ()), ()) := in_eq f n 0 63

def tfind (lost t : Int) : List Knot → Int × Int
  | [] => (0, lost)
  | x :: r => cond (x.1 == t) (x.2.1, w64 (x.2.1 + lost)) (tfind lost t r)
def topGet (ps : List Knot) (lost tall t : Int) : Int × Int := cond (topB ps lost tall && thingB t) (tfind lost t ps) (-1, -1)
theorem tfind_go (lost t : Int) : ∀ (l : List Knot) (s : Unit), goL (R := ((Int × Unit) × ((Int × Unit) × Unit))) (fun (x : Knot) k s => cond (x.1 == t) (some ((x.2.1, ()), (w64 (x.2.1 + lost), ()), ())) (k s)) (fun s => some ((0, ()), (lost, ()), ())) l s = some (((tfind lost t l).1, ()), ((tfind lost t l).2, ()), ())
  | [], s => rfl
  | x :: l, s => by
    unfold goL tfind
    rw [tfind_go lost t l]
    cases (x.1 == t) <;> rfl
theorem specTopGet_eq (f : Nat) (l : List Knot) (lost tall t : Int) (hl : l.length < 4294967296) (hf : l.length < f) : spec_TopGet_fn f ((l, lost, tall, ()), (t, ()), ()) = some (((topGet l lost tall t).1, ()), ((topGet l lost tall t).2, ()), ()) := by
  show spec_TopGet_pre f (iter (spec_TopGet_st0 f) f) l lost tall t = _
  unfold spec_TopGet_pre topGet
  simp only [specTop_eq f l lost tall hl hf, thing_in, Option.bind_some]
  cases topB l lost tall
  · rfl
  cases thingB t
  · rfl
  simp only [Bool.not_true, cond_false, Bool.and_true, cond_true]
  refine (iter_list (st := spec_TopGet_st0 f) (enc := fun i (s : Unit) => ((i : Int), t, l, lost, tall)) (fun (x : Knot) k s => cond (x.1 == t) (some ((x.2.1, ()), (w64 (x.2.1 + lost), ()), ())) (k s)) (fun s => some ((0, ()), (lost, ()), ())) l (0, 0, ()) ?_ ?_ f () hf).trans (tfind_go lost t l ())
  · intro i s g hi
    show spec_TopGet_step0 f g _ = _
    unfold spec_TopGet_step0
    simp only [zz_eq, lt_cast hi, le_cast, decide_true, cond_true, Int.toNat_natCast, w64_up (show i < 4294967296 by omega)]
  · intro s g
    show spec_TopGet_step0 f g _ = _
    unfold spec_TopGet_step0
    simp only [zz_eq, nlt_cast, decide_false, cond_false]
theorem implTopGet_eq (f : Nat) (l : List Knot) (lost tall t : Int) (hf : 8 < f) : impl_TopGet_fn f ((l, lost, tall, ()), (t, ()), ()) = some (((topGet l lost tall t).1, ()), ((topGet l lost tall t).2, ()), ()) := by
  show impl_TopGet_pre f (iter (impl_TopGet_st0 f) f) l lost tall t = _
  unfold impl_TopGet_pre topGet
  simp only [implTop_eq f l lost tall hf, thing_eq, Option.bind_some]
  cases ht : topB l lost tall
  · rfl
  cases thingB t
  · rfl
  have h4 : l.length ≤ 4 := by
    unfold topB at ht
    simp only [Bool.and_eq_true, decide_eq_true_eq] at ht
    exact ht.1.1
  simp only [Bool.not_true, cond_false, Bool.and_true, cond_true, zz_eq]
  refine (iter_list (st := impl_TopGet_st0 f) (enc := fun i (s : Unit) => ((i : Int), (l.length : Int), l, t, l, lost, tall)) (fun (x : Knot) k s => cond (x.1 == t) (some ((x.2.1, ()), (w64 (x.2.1 + lost), ()), ())) (k s)) (fun s => some ((0, ()), (lost, ()), ())) l (0, 0, ()) ?_ ?_ f () (by omega)).trans (tfind_go lost t l ())
  · intro i s g hi
    show impl_TopGet_step0 f g _ = _
    unfold impl_TopGet_step0
    simp only [zz_eq, lt_cast hi, le_cast, decide_true, cond_true, Int.toNat_natCast, w64_up (show i < 4294967296 by omega)]
  · intro s g
    show impl_TopGet_step0 f g _ = _
    unfold impl_TopGet_step0
    simp only [zz_eq, nlt_cast, decide_false, cond_false]

def mark (t : Int) : Int := cond (thingB t) (Int.tmod (w64 (w64 (t * 37) + 11)) 64) (-1)
theorem specMark_eq (f : Nat) (t : Int) : spec_FewMark_fn f ((t, ()), ()) = some ((mark t, ()), ()) := by
  show spec_FewMark_pre f t = _
  unfold spec_FewMark_pre mark
  rw [thing_in, Option.bind_some]
  cases thingB t <;> rfl
theorem implMark_eq (f : Nat) (t : Int) : impl_FewMark_fn f ((t, ()), ()) = some ((mark t, ()), ()) := by
  show impl_FewMark_pre f t = _
  unfold impl_FewMark_pre mark
  rw [thing_eq, Option.bind_some, Int.mul_comm]
  cases thingB t <;> rfl

def fewHas (ms : List Int) (t : Int) : Bool × Bool :=
  cond (fewB ms && thingB t) (cond (ms.contains (mark t)) (true, true) (false, decide (ms.length < 6) || decide (mark t < ms.getD 5 0))) (false, false)
theorem has_go (m : Int) (q : Bool × Bool) : ∀ (l : List Int) (s : Unit), goL (R := ((Bool × Unit) × ((Bool × Unit) × Unit))) (fun (x : Int) k s => cond (x == m) (some ((true, ()), (true, ()), ())) (k s)) (fun s => some ((q.1, ()), (q.2, ()), ())) l s = some (((cond (l.contains m) (true, true) q).1, ()), ((cond (l.contains m) (true, true) q).2, ()), ())
  | [], s => rfl
  | x :: l, s => by
    unfold goL
    rw [has_go m q l, List.contains_cons]
    by_cases c : x = m
    · subst c; simp only [beq_self_eq_true, cond_true, Bool.true_or]
    · have c1 : (x == m) = false := by simpa using c
      have c2 : (m == x) = false := by simpa using fun h => c h.symm
      simp only [c1, c2, cond_false, Bool.false_or]
theorem six {ms : List Int} (h : fewB ms = true) : ms.length ≤ 6 := by
  unfold fewB at h
  simp only [Bool.and_eq_true, decide_eq_true_eq] at h
  exact h.1
theorem specHas_eq (f : Nat) (l : List Int) (t : Int) (hl : l.length < 4294967296) (hf : l.length < f) : spec_FewHas_fn f ((l, ()), (t, ()), ()) = some (((fewHas l t).1, ()), ((fewHas l t).2, ()), ()) := by
  show spec_FewHas_pre f (iter (spec_FewHas_st0 f) f) l t = _
  unfold spec_FewHas_pre fewHas
  simp only [specFew_eq f l hl hf, thing_in, specMark_eq, Option.bind_some]
  cases h : fewB l
  · rfl
  cases ht : thingB t
  · rfl
  have h6 := six h
  simp only [Bool.not_true, cond_false, Bool.and_true, cond_true, zz_eq]
  refine (iter_list (st := spec_FewHas_st0 f) (enc := fun i (s : Unit) => ((i : Int), (l.length : Int), mark t, l)) (fun (x : Int) k s => cond (x == mark t) (some ((true, ()), (true, ()), ())) (k s)) (fun s => some ((false, ()), ((decide (l.length < 6) || decide (mark t < l.getD 5 0)), ()), ())) l 0 ?_ ?_ f () hf).trans (has_go (mark t) (false, _) l ())
  · intro i s g hi
    show spec_FewHas_step0 f g _ = _
    unfold spec_FewHas_step0
    simp only [zz_eq, lt_cast hi, le_cast, decide_true, cond_true, Int.toNat_natCast, w64_up (show i < 4294967296 by omega)]
  · intro s g
    show spec_FewHas_step0 f g _ = _
    unfold spec_FewHas_step0
    simp only [zz_eq, nlt_cast, decide_false, cond_false]
    by_cases c : l.length < 6
    · have c' : (l.length : Int) < 6 := by omega
      simp only [c, c', decide_true, cond_true, Bool.true_or]
    · have c' : ¬ (l.length : Int) < 6 := by omega
      have c2 : w64 ((l.length : Int) - 1) = ((5 : Nat) : Int) := by rw [w64_id] <;> omega
      have c3 : ((5 : Nat) : Int) < (l.length : Int) := by omega
      simp only [c, c', c2, c3, le_cast, decide_true, decide_false, cond_true, cond_false, Bool.false_or, Int.toNat_natCast]
theorem implHas_eq (f : Nat) (l : List Int) (t : Int) (hf : 8 < f) : impl_FewHas_fn f ((l, ()), (t, ()), ()) = some (((fewHas l t).1, ()), ((fewHas l t).2, ()), ()) := by
  show impl_FewHas_pre f (iter (impl_FewHas_st0 f) f) l t = _
  unfold impl_FewHas_pre fewHas
  simp only [implFew_eq f l hf, thing_eq, implMark_eq, Option.bind_some]
  cases h : fewB l
  · rfl
  cases ht : thingB t
  · rfl
  have h6 := six h
  simp only [Bool.not_true, cond_false, Bool.and_true, cond_true, zz_eq]
  refine (iter_list (st := impl_FewHas_st0 f) (enc := fun i (s : Unit) => ((i : Int), (l.length : Int), l, mark t, l)) (fun (x : Int) k s => cond (x == mark t) (some ((true, ()), (true, ()), ())) (k s)) (fun s => some ((false, ()), ((decide (l.length < 6) || decide (mark t < l.getD 5 0)), ()), ())) l 0 ?_ ?_ f () (by omega)).trans (has_go (mark t) (false, _) l ())
  · intro i s g hi
    show impl_FewHas_step0 f g _ = _
    unfold impl_FewHas_step0
    simp only [zz_eq, lt_cast hi, le_cast, decide_true, cond_true, Int.toNat_natCast, w64_up (show i < 4294967296 by omega)]
  · intro s g
    show impl_FewHas_step0 f g _ = _
    unfold impl_FewHas_step0
    simp only [zz_eq, nlt_cast, decide_false, cond_false]
    by_cases c : l.length < 6
    · have c' : (l.length : Int) < 6 := by omega
      simp only [c, c', decide_true, cond_true, Bool.true_or]
    · have c' : ¬ (l.length : Int) < 6 := by omega
      have c3 : (5 : Int) < (l.length : Int) := by omega
      simp only [c, c', c3, decide_true, decide_false, cond_true, cond_false, Bool.false_or]
      rfl

def pl (i : Nat) (t : Int) : Nat := match i with
  | 0 => ((3 * t + t / 8) % 8).toNat
  | 1 => ((5 * t + t / 16 + 1) % 8).toNat
  | _ => ((t + t / 4 + 2) % 8).toNat
theorem pl_lt (i : Nat) (t : Int) : pl i t < 8 := by
  unfold pl; split <;> omega
theorem tmod8 {x : Int} (h : 0 ≤ x) : Int.tmod x 8 = x % 8 := Int.tmod_eq_emod_of_nonneg h
theorem tdivP {x y : Int} (h : 0 ≤ x) : Int.tdiv x y = x / y := Int.tdiv_eq_ediv_of_nonneg h
theorem thing_le {t : Int} (h : thingB t = true) : 0 ≤ t ∧ t ≤ 63 := by unfold thingB at h; simpa using h
theorem specPlace_eq (f : Nat) (i : Nat) (t : Int) (hi : i < 3) (ht : thingB t = true) : spec_l1Place_fn f ((((i : Nat) : Int), ()), (t, ()), ()) = some (((pl i t : Int), ()), ()) := by
  have h := thing_le ht
  show spec_l1Place_pre f (i : Int) t = _
  unfold spec_l1Place_pre pl
  match i, hi with
  | 0, _ =>
    simp only [List.length_cons, List.length_nil, Int.natCast_zero, Int.toNat_zero, List.getD_cons_zero]
    have e1 : w64 (t * 3) = t * 3 := by rw [w64_id] <;> omega
    have e2 : w64 (Int.tdiv t 8) = t / 8 := by rw [tdivP h.1, w64_id] <;> omega
    have e3 : w64 (t * 3 + t / 8) = t * 3 + t / 8 := by rw [w64_id] <;> omega
    have e4 : w64 (t * 3 + t / 8 + 0) = t * 3 + t / 8 := by rw [w64_id] <;> omega
    rw [e1, e2, e3, e4, tmod8 (by omega)]
    have e5 : (t * 3 + t / 8) % 8 = (((3 * t + t / 8) % 8).toNat : Int) := by omega
    rw [e5]; rfl
  | 1, _ =>
    simp only [List.length_cons, List.length_nil]
    have e1 : w64 (t * 5) = t * 5 := by rw [w64_id] <;> omega
    have e2 : w64 (Int.tdiv t 16) = t / 16 := by rw [tdivP h.1, w64_id] <;> omega
    have e3 : w64 (t * 5 + t / 16) = t * 5 + t / 16 := by rw [w64_id] <;> omega
    have e4 : w64 (t * 5 + t / 16 + 1) = t * 5 + t / 16 + 1 := by rw [w64_id] <;> omega
    have g1 : List.getD [(3 : Int), (5 : Int), (1 : Int)] (Int.toNat ((1 : Nat) : Int)) 0 = 5 := rfl
    have g2 : List.getD [(8 : Int), (16 : Int), (4 : Int)] (Int.toNat ((1 : Nat) : Int)) 0 = 16 := rfl
    rw [g1, g2, e1, e2, e3, show ((1 : Nat) : Int) = 1 from rfl, e4, tmod8 (by omega)]
    have e5 : (t * 5 + t / 16 + 1) % 8 = (((5 * t + t / 16 + 1) % 8).toNat : Int) := by omega
    rw [e5]; rfl
  | 2, _ =>
    simp only [List.length_cons, List.length_nil]
    have e1 : w64 (t * 1) = t := by rw [w64_id] <;> omega
    have e2 : w64 (Int.tdiv t 4) = t / 4 := by rw [tdivP h.1, w64_id] <;> omega
    have e3 : w64 (t + t / 4) = t + t / 4 := by rw [w64_id] <;> omega
    have e4 : w64 (t + t / 4 + 2) = t + t / 4 + 2 := by rw [w64_id] <;> omega
    have g1 : List.getD [(3 : Int), (5 : Int), (1 : Int)] (Int.toNat ((2 : Nat) : Int)) 0 = 1 := rfl
    have g2 : List.getD [(8 : Int), (16 : Int), (4 : Int)] (Int.toNat ((2 : Nat) : Int)) 0 = 4 := rfl
    rw [g1, g2, e1, e2, e3, show ((2 : Nat) : Int) = 2 from rfl, e4, tmod8 (by omega)]
    have e5 : (t + t / 4 + 2) % 8 = (((t + t / 4 + 2) % 8).toNat : Int) := by omega
    rw [e5]; rfl
theorem implPlace_eq (f : Nat) (i : Nat) (t : Int) (hi : i < 3) (ht : thingB t = true) : impl_RoughPlace_fn f ((((i : Nat) : Int), ()), (t, ()), ()) = some (((pl i t : Int), ()), ()) := by
  have h := thing_le ht
  show impl_RoughPlace_pre f (i : Int) t = _
  unfold impl_RoughPlace_pre pl
  rw [thing_eq, Option.bind_some, ht]
  match i, hi with
  | 0, _ =>
    have e1 : w64 (3 * t) = 3 * t := by rw [w64_id] <;> omega
    have e2 : w64 (Int.tdiv t 8) = t / 8 := by rw [tdivP h.1, w64_id] <;> omega
    have e3 : w64 (3 * t + t / 8) = 3 * t + t / 8 := by rw [w64_id] <;> omega
    rw [e1, e2, e3, tmod8 (by omega)]
    have e5 : (3 * t + t / 8) % 8 = (((3 * t + t / 8) % 8).toNat : Int) := by omega
    rw [e5]; rfl
  | 1, _ =>
    have e1 : w64 (5 * t) = 5 * t := by rw [w64_id] <;> omega
    have e2 : w64 (Int.tdiv t 16) = t / 16 := by rw [tdivP h.1, w64_id] <;> omega
    have e3 : w64 (5 * t + t / 16) = 5 * t + t / 16 := by rw [w64_id] <;> omega
    have e4 : w64 (5 * t + t / 16 + 1) = 5 * t + t / 16 + 1 := by rw [w64_id] <;> omega
    rw [e1, e2, e3, e4, tmod8 (x := 5 * t + t / 16 + 1) (by omega)]
    have e5 : (5 * t + t / 16 + 1) % 8 = (((5 * t + t / 16 + 1) % 8).toNat : Int) := by omega
    rw [e5]; rfl
  | 2, _ =>
    have e2 : w64 (Int.tdiv t 4) = t / 4 := by rw [tdivP h.1, w64_id] <;> omega
    have e3 : w64 (t + t / 4) = t + t / 4 := by rw [w64_id] <;> omega
    have e4 : w64 (t + t / 4 + 2) = t + t / 4 + 2 := by rw [w64_id] <;> omega
    rw [e2, e3, e4, tmod8 (x := t + t / 4 + 2) (by omega)]
    have e5 : (t + t / 4 + 2) % 8 = (((t + t / 4 + 2) % 8).toNat : Int) := by omega
    rw [e5]; rfl

def lesser (x n : Int) : Int := if x < n then x else n
def rget (a b c : List Int) (t : Int) : Int := lesser (c.getD (pl 2 t) 0) (lesser (b.getD (pl 1 t) 0) (a.getD (pl 0 t) 0))
def roughGet (rs : List (List Int)) (t : Int) : Int := cond (roughB rs && thingB t) (rget (rs.getD 0 []) (rs.getD 1 []) (rs.getD 2 []) t) (-1)
theorem rough_rows {rs : List (List Int)} (h : roughB rs = true) : ∃ a b c, rs = [a, b, c] ∧ rowB a = true ∧ rowB b = true ∧ rowB c = true ∧ isum b = isum a ∧ isum c = isum a := by
  unfold roughB at h
  simp only [Bool.and_eq_true, decide_eq_true_eq] at h
  obtain ⟨h3, h4⟩ := h
  obtain ⟨a, b, c, rfl⟩ := three h3
  simp only [List.all_cons, List.all_nil, Bool.and_eq_true, List.getD_cons_zero, beq_iff_eq] at h4
  exact ⟨a, b, c, rfl, h4.1.1, h4.2.1.1, h4.2.2.1.1, h4.2.1.2, h4.2.2.1.2⟩
theorem row_len {a : List Int} (h : rowB a = true) : a.length = 8 := by
  unfold rowB at h
  simp only [Bool.and_eq_true, decide_eq_true_eq] at h
  exact h.1
theorem row_rng {a : List Int} (h : rowB a = true) (i : Nat) : 0 ≤ a.getD i 0 ∧ a.getD i 0 ≤ 2000 := by
  unfold rowB at h
  simp only [Bool.and_eq_true, decide_eq_true_eq, List.all_eq_true] at h
  rw [List.getD_eq_getElem?_getD]
  cases hi : a[i]? with
  | none => simp
  | some x =>
    have := h.2.1 x (List.mem_of_getElem? hi)
    unfold rng at this
    simpa using this
theorem specRoughGet_eq (f : Nat) (rs : List (List Int)) (t : Int) (hf : 8 < f) (hr : ∀ r ∈ rs, r.length < f ∧ r.length < 4294967296) : spec_RoughGet_fn f ((rs, ()), (t, ()), ()) = some ((roughGet rs t, ()), ()) := by
  show spec_RoughGet_pre f (iter (spec_RoughGet_st0 f) f) rs t = _
  unfold spec_RoughGet_pre roughGet
  simp only [specRough_eq f rs hf hr, thing_in, Option.bind_some]
  cases h : roughB rs
  · rfl
  cases ht : thingB t
  · rfl
  obtain ⟨a, b, c, rfl, ha, hb, hc, -, -⟩ := rough_rows h
  obtain ⟨f, rfl⟩ : ∃ g, f = g + 4 := ⟨f - 4, by omega⟩
  have p0 := specPlace_eq (f + 4) 0 t (by omega) ht
  have p1 := specPlace_eq (f + 4) 1 t (by omega) ht
  have p2 := specPlace_eq (f + 4) 2 t (by omega) ht
  have q0 : (pl 0 t : Int) < 8 := by have := pl_lt 0 t; omega
  have q1 : (pl 1 t : Int) < 8 := by have := pl_lt 1 t; omega
  have q2 : (pl 2 t : Int) < 8 := by have := pl_lt 2 t; omega
  have l0 := row_len ha
  have l1 := row_len hb
  have l2 := row_len hc
  rw [show ((0 : Nat) : Int) = 0 from rfl] at p0
  rw [show ((1 : Nat) : Int) = 1 from rfl] at p1
  rw [show ((2 : Nat) : Int) = 2 from rfl] at p2
  have s1 : ∀ (G : spec_RoughGet_V0 → Option ((Int × Unit) × Unit)) (m : Int), spec_RoughGet_step0 (f + 4) G (1, m, t, [a, b, c]) = G (2, lesser (b.getD (pl 1 t) 0) m, t, [a, b, c]) := fun G m => by
    unfold spec_RoughGet_step0
    simp only [p1, Option.bind_some]
    have : ((([a, b, c] : List (List Int)).getD (Int.toNat 1) []).length : Int) = 8 := by show (b.length : Int) = 8; omega
    simp only [zz_eq, this, q1, le_cast, decide_true, cond_true, Int.toNat_natCast]
    rfl
  have s2 : ∀ (G : spec_RoughGet_V0 → Option ((Int × Unit) × Unit)) (m : Int), spec_RoughGet_step0 (f + 4) G (2, m, t, [a, b, c]) = G (3, lesser (c.getD (pl 2 t) 0) m, t, [a, b, c]) := fun G m => by
    unfold spec_RoughGet_step0
    simp only [p2, Option.bind_some]
    have : ((([a, b, c] : List (List Int)).getD (Int.toNat 2) []).length : Int) = 8 := by show (c.length : Int) = 8; omega
    simp only [zz_eq, this, q2, le_cast, decide_true, cond_true, Int.toNat_natCast]
    rfl
  simp only [Bool.not_true, cond_false, p0, Option.bind_some]
  have : ((([a, b, c] : List (List Int)).getD (Int.toNat 0) []).length : Int) = 8 := by show (a.length : Int) = 8; omega
  simp only [zz_eq, this, q0, le_cast, decide_true, cond_true, Int.toNat_natCast, Bool.and_self]
  rw [show iter (spec_RoughGet_st0 (f + 4)) (f + 4) = spec_RoughGet_step0 (f + 4) (spec_RoughGet_step0 (f + 4) (spec_RoughGet_step0 (f + 4) (iter (spec_RoughGet_st0 (f + 4)) (f + 1)))) from rfl]
  rw [s1, s2]
  rfl
theorem implRoughGet_eq (f : Nat) (rs : List (List Int)) (t : Int) (hf : 8 < f) : impl_RoughGet_fn f ((rs, ()), (t, ()), ()) = some ((roughGet rs t, ()), ()) := by
  show impl_RoughGet_pre f (iter (impl_RoughGet_st0 f) f) rs t = _
  unfold impl_RoughGet_pre roughGet
  simp only [implRough_eq f rs hf, thing_eq, Option.bind_some]
  cases h : roughB rs
  · rfl
  cases ht : thingB t
  · rfl
  obtain ⟨a, b, c, rfl, ha, hb, hc, -, -⟩ := rough_rows h
  obtain ⟨f, rfl⟩ : ∃ g, f = g + 4 := ⟨f - 4, by omega⟩
  have p0 := implPlace_eq (f + 4) 0 t (by omega) ht
  have p1 := implPlace_eq (f + 4) 1 t (by omega) ht
  have p2 := implPlace_eq (f + 4) 2 t (by omega) ht
  have q0 : (pl 0 t : Int) < 8 := by have := pl_lt 0 t; omega
  have q1 : (pl 1 t : Int) < 8 := by have := pl_lt 1 t; omega
  have q2 : (pl 2 t : Int) < 8 := by have := pl_lt 2 t; omega
  have l0 := row_len ha
  have l1 := row_len hb
  have l2 := row_len hc
  rw [show ((0 : Nat) : Int) = 0 from rfl] at p0
  rw [show ((1 : Nat) : Int) = 1 from rfl] at p1
  rw [show ((2 : Nat) : Int) = 2 from rfl] at p2
  have s0 : ∀ (G : impl_RoughGet_V0 → Option ((Int × Unit) × Unit)) (m : Int), impl_RoughGet_step0 (f + 4) G (0, 3, [a, b, c], m, t) = G (1, 3, [a, b, c], lesser (a.getD (pl 0 t) 0) m, t) := fun G m => by
    unfold impl_RoughGet_step0
    simp only [p0, Option.bind_some]
    have : ((([a, b, c] : List (List Int)).getD (Int.toNat 0) []).length : Int) = 8 := by show (a.length : Int) = 8; omega
    simp only [zz_eq, this, q0, le_cast, decide_true, cond_true, Int.toNat_natCast]
    rfl
  have s1 : ∀ (G : impl_RoughGet_V0 → Option ((Int × Unit) × Unit)) (m : Int), impl_RoughGet_step0 (f + 4) G (1, 3, [a, b, c], m, t) = G (2, 3, [a, b, c], lesser (b.getD (pl 1 t) 0) m, t) := fun G m => by
    unfold impl_RoughGet_step0
    simp only [p1, Option.bind_some]
    have : ((([a, b, c] : List (List Int)).getD (Int.toNat 1) []).length : Int) = 8 := by show (b.length : Int) = 8; omega
    simp only [zz_eq, this, q1, le_cast, decide_true, cond_true, Int.toNat_natCast]
    rfl
  have s2 : ∀ (G : impl_RoughGet_V0 → Option ((Int × Unit) × Unit)) (m : Int), impl_RoughGet_step0 (f + 4) G (2, 3, [a, b, c], m, t) = G (3, 3, [a, b, c], lesser (c.getD (pl 2 t) 0) m, t) := fun G m => by
    unfold impl_RoughGet_step0
    simp only [p2, Option.bind_some]
    have : ((([a, b, c] : List (List Int)).getD (Int.toNat 2) []).length : Int) = 8 := by show (c.length : Int) = 8; omega
    simp only [zz_eq, this, q2, le_cast, decide_true, cond_true, Int.toNat_natCast]
    rfl
  simp only [Bool.not_true, cond_false, Bool.and_self, cond_true, zz_eq]
  rw [show iter (impl_RoughGet_st0 (f + 4)) (f + 4) = impl_RoughGet_step0 (f + 4) (impl_RoughGet_step0 (f + 4) (impl_RoughGet_step0 (f + 4) (impl_RoughGet_step0 (f + 4) (iter (impl_RoughGet_st0 (f + 4)) f)))) from rfl]
  rw [show (([a, b, c].length : Nat) : Int) = 3 from rfl, s0, s1, s2]
  have m0 : lesser (a.getD (pl 0 t) 0) 2000 = a.getD (pl 0 t) 0 := by
    have := (row_rng ha (pl 0 t)).2
    unfold lesser; split <;> omega
  rw [m0]
  rfl

def sumGet (rs : List (List Int)) (ms : List Int) (ps : List Knot) (lost tall : Int) (ks : List Knot) (rall t : Int) : Int × Int :=
  cond (sumB rs ms ps lost tall ks rall && thingB t)
    (cond ((fewHas ms t).2 && !(fewHas ms t).1) (0, 0)
      (cond (fewHas ms t).1 (if (1 : Int) > (topGet ps lost tall t).1 then 1 else (topGet ps lost tall t).1) (topGet ps lost tall t).1, lesser (roughGet rs t) (topGet ps lost tall t).2)) (-1, -1)
theorem has_known (ms : List Int) (t : Int) : (fewHas ms t).1 = true → (fewHas ms t).2 = true := by
  unfold fewHas
  cases (fewB ms && thingB t)
  · exact id
  · cases (ms.contains (mark t))
    · intro h; cases h
    · intro h; rfl

theorem specSumGet_eq (f : Nat) (rs : List (List Int)) (ms : List Int) (ps : List Knot) (lost tall : Int) (ks : List Knot) (rall t : Int) (hf : 8 < f)
    (hr : ∀ r ∈ rs, r.length < f ∧ r.length < 4294967296) (hm : ms.length < 4294967296 ∧ ms.length < f) (hp : ps.length < 4294967296 ∧ ps.length < f) (hk : ks.length < 4294967296 ∧ ks.length < f) :
    spec_SumGet_fn f ((rs, ms, ps, lost, tall, ks, rall, ()), (t, ()), ()) = some (((sumGet rs ms ps lost tall ks rall t).1, ()), ((sumGet rs ms ps lost tall ks rall t).2, ()), ()) := by
  show spec_SumGet_pre f rs ms ps lost tall ks rall t = _
  unfold spec_SumGet_pre sumGet
  simp only [specSum_eq f rs ms ps lost tall ks rall hf hr hm hp hk, thing_in, specTopGet_eq f ps lost tall t hp.1 hp.2, specHas_eq f ms t hm.1 hm.2, specRoughGet_eq f rs t hf hr, Option.bind_some]
  have := has_known ms t
  cases sumB rs ms ps lost tall ks rall
  · rfl
  cases thingB t
  · rfl
  cases h1 : (fewHas ms t).1 <;> cases h2 : (fewHas ms t).2
  · rfl
  · rfl
  · rw [h1, h2] at this; cases this rfl
  · rfl
theorem implSumGet_eq (f : Nat) (rs : List (List Int)) (ms : List Int) (ps : List Knot) (lost tall : Int) (ks : List Knot) (rall t : Int) (hf : 8 < f) (hk : ks.length < 4294967296 ∧ ks.length < f) :
    impl_SumGet_fn f ((rs, ms, ps, lost, tall, ks, rall, ()), (t, ()), ()) = some (((sumGet rs ms ps lost tall ks rall t).1, ()), ((sumGet rs ms ps lost tall ks rall t).2, ()), ()) := by
  show impl_SumGet_pre f rs ms ps lost tall ks rall t = _
  unfold impl_SumGet_pre sumGet
  simp only [implSum_eq f rs ms ps lost tall ks rall hf hk, thing_eq, implTopGet_eq f ps lost tall t hf, implHas_eq f ms t hf, implRoughGet_eq f rs t hf, Option.bind_some]
  have := has_known ms t
  cases sumB rs ms ps lost tall ks rall
  · rfl
  cases thingB t
  · rfl
  cases h1 : (fewHas ms t).1 <;> cases h2 : (fewHas ms t).2
  · rfl
  · rfl
  · rw [h1, h2] at this; cases this rfl
  · rfl

theorem specSumAll_eq (f : Nat) (rs : List (List Int)) (ms : List Int) (ps : List Knot) (lost tall : Int) (ks : List Knot) (rall : Int) (hf : 8 < f)
    (hr : ∀ r ∈ rs, r.length < f ∧ r.length < 4294967296) (hm : ms.length < 4294967296 ∧ ms.length < f) (hp : ps.length < 4294967296 ∧ ps.length < f) (hk : ks.length < 4294967296 ∧ ks.length < f) :
    spec_SumAll_fn f ((rs, ms, ps, lost, tall, ks, rall, ()), ()) = some ((cond (sumB rs ms ps lost tall ks rall) tall (-1), ()), ()) := by
  show spec_SumAll_pre f rs ms ps lost tall ks rall = _
  unfold spec_SumAll_pre
  rw [specSum_eq f rs ms ps lost tall ks rall hf hr hm hp hk, Option.bind_some]
  cases sumB rs ms ps lost tall ks rall <;> rfl
theorem implSumAll_eq (f : Nat) (rs : List (List Int)) (ms : List Int) (ps : List Knot) (lost tall : Int) (ks : List Knot) (rall : Int) (hf : 8 < f) (hk : ks.length < 4294967296 ∧ ks.length < f) :
    impl_SumAll_fn f ((rs, ms, ps, lost, tall, ks, rall, ()), ()) = some ((cond (sumB rs ms ps lost tall ks rall) tall (-1), ()), ()) := by
  show impl_SumAll_pre f rs ms ps lost tall ks rall = _
  unfold impl_SumAll_pre
  rw [implSum_eq f rs ms ps lost tall ks rall hf hk, Option.bind_some, implAll_eq f rs hf, Option.bind_some]
  cases h : sumB rs ms ps lost tall ks rall
  · rfl
  · unfold sumB at h
    simp only [Bool.and_eq_true, beq_iff_eq] at h
    rw [h.2.2.2.2.1]; rfl

abbrev sumC : List (Kd × Bool) := [(Kd.list (.list (.int .i64)), false), (Kd.list (.int .i64), false), (Kd.list (.pair (.int .i64) (.pair (.int .i64) .unit)), false), (.int .i64, false), (.int .i64, false), (Kd.list (.pair (.int .i64) (.pair (.int .i64) .unit)), false), (.int .i64, false)]

theorem exactOk_eq (f : Nat) (rs : List (List Int)) (ms : List Int) (ps : List Knot) (lost tall : Int) (ks : List Knot) (rall : Int) (hs : Short rs ms ps ks maxLen) (hf : 1048576 < f) :
    laws_FnExactSumOk_fn f ((rs, ms, ps, lost, tall, ks, rall, ()), ()) = some ((true, ()), ()) := by
  show laws_FnExactSumOk_pre f rs ms ps lost tall ks rall = _
  unfold laws_FnExactSumOk_pre
  obtain ⟨v, e, -, w⟩ := szSum_eq f rs ms ps lost tall ks rall 1048576 (by omega) (by omega) hs hf
  rw [e, Option.bind_some]
  by_cases c : v < 0
  · simp only [c, decide_true, cond_true]
  have sh := w (by omega)
  have sh' := sh
  obtain ⟨s1, s2, s3, s4, s5⟩ := sh'
  simp only [c, decide_false, cond_false, toSum_eq f rs ms ps lost tall ks rall sh hf, eqSum_refl f rs ms ps lost tall ks rall sh hf, Option.bind_some,
    specSum_eq f rs ms ps lost tall ks rall (by omega) (fun r hr => by have := s2 r hr; omega) (by omega) (by omega) (by omega), implSum_eq f rs ms ps lost tall ks rall (by omega) (by omega)]
  cases sumB rs ms ps lost tall ks rall <;> rfl
theorem exactAll_eq (f : Nat) (rs : List (List Int)) (ms : List Int) (ps : List Knot) (lost tall : Int) (ks : List Knot) (rall : Int) (hs : Short rs ms ps ks maxLen) (hf : 1048576 < f) :
    laws_FnExactSumAll_fn f ((rs, ms, ps, lost, tall, ks, rall, ()), ()) = some ((true, ()), ()) := by
  show laws_FnExactSumAll_pre f rs ms ps lost tall ks rall = _
  unfold laws_FnExactSumAll_pre
  obtain ⟨v, e, -, w⟩ := szSum_eq f rs ms ps lost tall ks rall 1048576 (by omega) (by omega) hs hf
  rw [e, Option.bind_some]
  by_cases c : v < 0
  · simp only [c, decide_true, cond_true]
  have sh := w (by omega)
  have sh' := sh
  obtain ⟨s1, s2, s3, s4, s5⟩ := sh'
  simp only [c, decide_false, cond_false, toSum_eq f rs ms ps lost tall ks rall sh hf, eqSum_refl f rs ms ps lost tall ks rall sh hf, Option.bind_some,
    specSumAll_eq f rs ms ps lost tall ks rall (by omega) (fun r hr => by have := s2 r hr; omega) (by omega) (by omega) (by omega), implSumAll_eq f rs ms ps lost tall ks rall (by omega) (by omega),
    bne_self_eq_false, Bool.not_true]
theorem exactGet_eq (f : Nat) (rs : List (List Int)) (ms : List Int) (ps : List Knot) (lost tall : Int) (ks : List Knot) (rall t : Int) (hs : Short rs ms ps ks maxLen) (hf : 1048576 < f) :
    laws_FnExactSumGet_fn f ((rs, ms, ps, lost, tall, ks, rall, ()), (t, ()), ()) = some ((true, ()), ()) := by
  show laws_FnExactSumGet_pre f rs ms ps lost tall ks rall t = _
  unfold laws_FnExactSumGet_pre
  obtain ⟨v, e, -, w⟩ := szSum_eq f rs ms ps lost tall ks rall 1048576 (by omega) (by omega) hs hf
  rw [e, Option.bind_some]
  by_cases c : v < 0
  · simp only [c, decide_true, cond_true]
  have sh := w (by omega)
  have sh' := sh
  obtain ⟨s1, s2, s3, s4, s5⟩ := sh'
  simp only [c, decide_false, cond_false, toSum_eq f rs ms ps lost tall ks rall sh hf, eqSum_refl f rs ms ps lost tall ks rall sh hf, Option.bind_some,
    specSumGet_eq f rs ms ps lost tall ks rall t (by omega) (fun r hr => by have := s2 r hr; omega) (by omega) (by omega) (by omega), implSumGet_eq f rs ms ps lost tall ks rall t (by omega) (by omega),
    bne_self_eq_false, Bool.not_true]

theorem pureExactSumOk (a : CsT sumC) (ha : wfCs sumC a) : ∃ fuel, laws_FnExactSumOk_fn fuel (a, ()) = some ((true, ()), ()) := by
  obtain ⟨rs, ms, ps, lost, tall, ks, rall, ⟨⟩⟩ := a
  obtain ⟨h1, h2, h3, h4, h5, h6, h7, -⟩ := ha
  exact ⟨3000000, exactOk_eq 3000000 rs ms ps lost tall ks rall ⟨h1.1, fun r hr => (h1.2 r hr).1, h2.1, h3.1, h6.1⟩ (by omega)⟩
theorem pureExactSumAll (a : CsT sumC) (ha : wfCs sumC a) : ∃ fuel, laws_FnExactSumAll_fn fuel (a, ()) = some ((true, ()), ()) := by
  obtain ⟨rs, ms, ps, lost, tall, ks, rall, ⟨⟩⟩ := a
  obtain ⟨h1, h2, h3, h4, h5, h6, h7, -⟩ := ha
  exact ⟨3000000, exactAll_eq 3000000 rs ms ps lost tall ks rall ⟨h1.1, fun r hr => (h1.2 r hr).1, h2.1, h3.1, h6.1⟩ (by omega)⟩
theorem pureExactSumGet (a : CsT sumC) (b : CsT [((.int .i64 : Kd), false)]) (ha : wfCs sumC a) (hb : wfCs [((.int .i64 : Kd), false)] b) : ∃ fuel, laws_FnExactSumGet_fn fuel (a, (b, ())) = some ((true, ()), ()) := by
  obtain ⟨rs, ms, ps, lost, tall, ks, rall, ⟨⟩⟩ := a
  obtain ⟨t, ⟨⟩⟩ := b
  obtain ⟨h1, h2, h3, h4, h5, h6, h7, -⟩ := ha
  exact ⟨3000000, exactGet_eq 3000000 rs ms ps lost tall ks rall t ⟨h1.1, fun r hr => (h1.2 r hr).1, h2.1, h3.1, h6.1⟩ (by omega)⟩
end Go.Proofs.Ytjnkefbdpcbkmaa.Den
