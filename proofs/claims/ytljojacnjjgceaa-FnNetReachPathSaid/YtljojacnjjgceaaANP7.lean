/- Part 7 of the texts behind the row. -/
import Derived.Test.YtljojacnjjgceaaANP6
set_option linter.unusedVariables false
set_option linter.unusedSimpArgs false
namespace Go.Proofs.Ytljojacnjjgceaa.Den
open Go Go.RowKit
abbrev Knot := Int × Int × Unit
theorem in_eq (f : Nat) (n lo hi : Int) : zc f ((n, ()), (lo, ()), (hi, ()), ()) = some ((decide (lo ≤ n ∧ n ≤ hi), ()), ()) := by
  unfold zc zmj
  by_cases h : lo ≤ n
  · simp [h]
  · simp [h]
def okGo (all : Int) : List Knot → Int → Int → Bool
  | [], _, sum => sum == all
  | k :: r, before, sum => if k.1 ≤ before ∨ 128 ≤ k.1 ∨ k.2.1 < 1 ∨ 2000 < k.2.1 ∨ (k.1 < 64 ∧ w64 (all.tdiv 8) < k.2.1) then false else okGo all r k.1 (w64 (sum + k.2.1))
def okB (ks : List Knot) (all : Int) : Bool := if all < 0 ∨ 2000 < all then false else okGo all ks 0 0
theorem zlM {α : Type} {ks : List α} {i : Nat} (d : α) (h : i < ks.length) : ks.drop i = ks.getD i d :: ks.drop (i + 1) := by
  rw [List.drop_eq_getElem_cons h, List.getD_eq_getElem?_getD, List.getElem?_eq_getElem h]; rfl
theorem znP (f : Nat) (ks : List Knot) (all : Int) (hl : ks.length < 4294967296) : ∀ (d i : Nat) (before sum : Int) (fuel : Nat), i + d = ks.length → (i = 0 → before = 0) → (0 < i → before = (ks.getD (i - 1) (0, 0, ())).1 ∧ 1 ≤ before) → d < fuel →
    iter (zg6 f) fuel ((i : Int), sum, ks, all) = some ((okGo all (ks.drop i) before sum, ()), ())
  | 0, i, before, sum, fuel + 1, hi, hb0, hb1, hf => by
    rw [iter]
    show zer f _ _ = _
    unfold zer
    have h1 : ¬ ((i : Int) < (ks.length : Int)) := by omega
    have h2 : ks.drop i = [] := List.drop_eq_nil_of_le (by omega)
    simp [h1, h2, okGo, zz_eq]
  | d + 1, i, before, sum, fuel + 1, hi, hb0, hb1, hf => by
    rw [iter]
    show zer f _ _ = _
    unfold zer
    have h1 : (i : Int) < (ks.length : Int) := by omega
    have h2 : (0 : Int) ≤ (i : Int) := by omega
    have h3 : w64 ((i : Int) + 1) = (i : Int) + 1 := by rw [w64_id] <;> omega
    have ih : ∀ sum, 1 ≤ (ks.getD i (0, 0, ())).1 → iter (zg6 f) fuel ((i : Int) + 1, sum, ks, all) = some ((okGo all (ks.drop (i + 1)) (ks.getD i (0, 0, ())).1 sum, ()), ()) := fun sum h => by
      exact_mod_cast znP f ks all hl d (i + 1) _ sum fuel (by omega) (by omega) (fun _ => ⟨rfl, h⟩) (by omega)
    rw [zlM (0, 0, ()) (show i < ks.length by omega)]
    simp only [h1, h2, h3, zz_eq, Int.toNat_natCast, decide_true, cond_true, in_eq, Option.bind_some]
    have hpos : (decide ((i : Int) > 0) = true → 0 < i ∧ (0 : Int) ≤ w64 ((i : Int) - 1) ∧ w64 ((i : Int) - 1) < (ks.length : Int) ∧ (w64 ((i : Int) - 1)).toNat = i - 1) := by
      intro h
      have h0 : 0 < i := by simpa using h
      have e : w64 ((i : Int) - 1) = ((i - 1 : Nat) : Int) := by rw [w64_id] <;> omega
      rw [e]; omega
    obtain ⟨k, hk⟩ : ∃ k : Knot, ks.getD i (0, 0, ()) = k := ⟨_, rfl⟩
    simp only [hk] at ih ⊢
    unfold okGo
    by_cases c1 : 1 ≤ k.1 ∧ k.1 ≤ 127
    · by_cases c2 : 1 ≤ k.2.1 ∧ k.2.1 ≤ 2000
      · have d2 : ¬ 128 ≤ k.1 := by omega
        have d3 : ¬ k.2.1 < 1 := by omega
        have d4 : ¬ 2000 < k.2.1 := by omega
        have ih' := fun s => ih s c1.1
        simp only [c1, c2, and_self, decide_true, Bool.not_true, cond_false, d2, d3, d4, false_or]
        cases hz : decide ((i : Int) > 0) with
        | true =>
          obtain ⟨g0, g1, g2, g3⟩ := hpos hz
          obtain ⟨g4, g5⟩ := hb1 g0
          simp only [cond_true, g1, g2, g3, decide_true, ← g4]
          by_cases c3 : k.1 ≤ before
          · simp [c3]
          · by_cases c5 : k.1 < 64
            · by_cases c6 : w64 (all.tdiv 8) < k.2.1
              · simp [c3, c5, c6]
              · simp [c3, c5, c6, ih']
            · simp [c3, c5, ih']
        | false =>
          have g0 : i = 0 := by have : ¬ (i : Int) > 0 := of_decide_eq_false hz; omega
          have g1 := hb0 g0
          have c3 : ¬ k.1 ≤ before := by omega
          by_cases c5 : k.1 < 64
          · by_cases c6 : w64 (all.tdiv 8) < k.2.1
            · simp [c3, c5, c6]
            · simp [c3, c5, c6, ih']
          · simp [c3, c5, ih']
      · have : k.1 ≤ before ∨ 128 ≤ k.1 ∨ k.2.1 < 1 ∨ 2000 < k.2.1 ∨ (k.1 < 64 ∧ w64 (all.tdiv 8) < k.2.1) := by omega
        simp [c1, c2, this]
    · have hbp : 0 ≤ before := by
        rcases Nat.eq_zero_or_pos i with h | h
        · rw [hb0 h]; omega
        · have := (hb1 h).2; omega
      have : k.1 ≤ before ∨ 128 ≤ k.1 ∨ k.2.1 < 1 ∨ 2000 < k.2.1 ∨ (k.1 < 64 ∧ w64 (all.tdiv 8) < k.2.1) := by omega
      simp [c1, this]
theorem zqY (f : Nat) (ks : List Knot) (all : Int) (hl : ks.length < 4294967296) (hf : ks.length < f) : zcq f ((ks, all, ()), ()) = some ((okB ks all, ()), ()) := by
  unfold zcq zjx okB
  simp only [in_eq, Option.bind_some]
  by_cases c : 0 ≤ all ∧ all ≤ 2000
  · have c1 : ¬ (all < 0 ∨ 2000 < all) := by omega
    have := znP f ks all hl ks.length 0 0 0 f (by omega) (fun _ => rfl) (by omega) hf
    simp only [c, c1, and_self, decide_true, Bool.not_true, cond_false, if_false]
    simpa using this
  · have c1 : all < 0 ∨ 2000 < all := by omega
    simp [c, c1]
def isum (l : List Int) : Int := l.foldl (fun s x => w64 (s + x)) 0
def rng (x : Int) : Bool := decide (0 ≤ x ∧ x ≤ 2000)
theorem isum_eq (f : Nat) (l : List Int) (hl : l.length < 4294967296) (hf : l.length < f) : zat f ((l, ()), ()) = some ((isum l, ()), ()) := by
  show iter (zgT f) f ((0 : Int), l, (0 : Int)) = _
  refine (zaH (st := zgT f) (enc := fun i s => ((i : Int), l, s)) (fun x k s => k (w64 (s + x))) (fun s => some ((s, ()), ())) l 0 ?_ ?_ f 0 hf).trans (fold_go (fun s x => w64 (s + x)) (fun _ _ _ => rfl) l 0)
  · intro i s g hi
    show zeb f g _ = _
    unfold zeb
    simp only [zz_eq, lt_cast hi, le_cast, decide_true, cond_true, Int.toNat_natCast, w64_up (Nat.lt_trans hi hl)]
  · intro s g
    show zeb f g _ = _
    unfold zeb
    simp only [zz_eq, zh, decide_false, cond_false]
def rowB (row : List Int) : Bool := decide (row.length = 8) && (row.all rng && decide (isum row ≤ 2000))
def roughB (rs : List (List Int)) : Bool := decide (rs.length = 3) && rs.all fun row => rowB row && (isum row == isum (rs.getD 0 []))
theorem three {α : Type} {rs : List α} (h : rs.length = 3) : ∃ a b c, rs = [a, b, c] := by
  match rs, h with
  | [a, b, c], _ => exact ⟨a, b, c, rfl⟩
theorem zlN (f : Nat) (rs : List (List Int)) (hf : 8 < f) (hr : ∀ r ∈ rs, r.length < f ∧ r.length < 4294967296) : zcl f ((rs, ()), ()) = some ((roughB rs, ()), ()) := by
  show zgV f (iter (zgU f) f) rs = _
  unfold zgV
  by_cases h : rs.length = 3
  · have e : (zz rs.length != (3 : Int)) = false := by simp [zz_eq, h]
    rw [e, cond_false]
    have := zaH (st := zgU f) (enc := fun i (s : Unit) => ((i : Int), rs)) (fun row k s => cond (rowB row && (isum row == isum (rs.getD 0 []))) (k s) (some ((false, ()), ()))) (fun s => some ((true, ()), ())) rs [] ?_ ?_ f () (by omega)
    · refine this.trans ?_
      rw [all_go _ _ (fun _ _ _ => rfl)]
      unfold roughB
      simp only [h, decide_true, Bool.true_and]
      cases (rs.all fun row => rowB row && (isum row == isum (rs.getD 0 []))) <;> rfl
    · intro i s g hi
      show zck f _ g _ = _
      unfold zck
      have l3 : (i : Int) < 3 := by omega
      simp only [zz_eq, lt_cast hi, l3, le_cast, decide_true, cond_true, Int.toNat_natCast]
      obtain ⟨x, hx⟩ : ∃ x : List Int, rs.getD i [] = x := ⟨_, rfl⟩
      simp only [hx]
      by_cases c1 : x.length = 8
      · have e8 : ((x.length : Int) != 8) = false := by simp [c1]
        rw [e8, cond_false]
        have := zaH (st := zju f g) (enc := fun k (s : Unit) => ((k : Int), (i : Int), rs)) (fun y k s => cond (rng y) (k s) (some ((false, ()), ()))) (fun s => cond (isum x == isum (rs.getD 0 []) && decide (isum x ≤ 2000)) (g (((i + 1 : Nat) : Int), rs)) (some ((false, ()), ()))) x 0 ?_ ?_ f () (by omega)
        · refine this.trans ?_
          rw [all_go _ _ (fun _ _ _ => rfl)]
          unfold rowB
          simp only [c1, decide_true, Bool.true_and]
          cases x.all rng <;> cases (isum x == isum (rs.getD 0 [])) <;> cases decide (isum x ≤ 2000) <;> rfl
        · intro k s g' hk
          show zcj f _ g' _ = _
          unfold zcj
          have l8 : (k : Int) < 8 := by omega
          simp only [zz_eq, lt_cast hi, lt_cast hk, l8, le_cast, decide_true, cond_true, Int.toNat_natCast, hx, in_eq, Option.bind_some, w64_up (show k < 4294967296 by omega)]
          unfold rng
          cases decide (0 ≤ x.getD k 0 ∧ x.getD k 0 ≤ 2000) <;> rfl
        · intro s g'
          show zcj f _ g' _ = _
          unfold zcj
          have l8 : ¬ ((x.length : Int) < 8) := by omega
          have l0 : (0 : Int) < (rs.length : Int) := by omega
          have ix : zat f ((x, ()), ()) = some ((isum x, ()), ()) := isum_eq f x (by omega) (by omega)
          simp only [zz_eq, l8, decide_false, cond_false, lt_cast hi, l0, le_cast, decide_true, cond_true, Int.toNat_natCast, hx, ix, Option.bind_some, w64_up (show i < 4294967296 by omega)]
          obtain ⟨g1, g2⟩ : (rs.getD 0 []).length < f ∧ (rs.getD 0 []).length < 4294967296 := by
            obtain ⟨a, b, c, rfl⟩ := three h
            exact hr a (by simp)
          have i0 : zat f ((rs.getD 0 [], ()), ()) = some ((isum (rs.getD 0 []), ()), ()) := isum_eq f _ g2 g1
          simp only [Int.toNat_zero, i0, Option.bind_some]
          by_cases c3 : isum x = isum (rs.getD 0 [])
          · simp only [c3, bne_self_eq_false, cond_false, beq_self_eq_true, Bool.true_and]
            by_cases c : isum (rs.getD 0 []) ≤ 2000
            · have : ¬ isum (rs.getD 0 []) > 2000 := by omega
              simp only [c, this, decide_true, decide_false, cond_true, cond_false]
            · have : isum (rs.getD 0 []) > 2000 := by omega
              simp only [c, this, decide_true, decide_false, cond_true, cond_false]
          · have c4 : (isum x == isum (rs.getD 0 [])) = false := by simpa using c3
            simp only [bne, c4, Bool.not_false, Bool.false_and, cond_true, cond_false]
      · have e8 : ((x.length : Int) != 8) = true := by simp; omega
        rw [e8, cond_true]
        unfold rowB
        simp [c1]
    · intro s g
      show zck f _ g _ = _
      unfold zck
      have l3 : ¬ ((rs.length : Int) < 3) := by omega
      simp only [l3, decide_false, cond_false]
  · have e : (zz rs.length != (3 : Int)) = true := by simp [zz_eq]; omega
    rw [e, cond_true]
    unfold roughB
    simp [h]
def fewGo : List Int → Int → Bool
  | [], _ => true
  | x :: r, p => decide (p < x ∧ x ≤ 63) && fewGo r x
def fewB (l : List Int) : Bool := decide (l.length ≤ 6) && fewGo l (-1)
theorem zqZ (f : Nat) (l : List Int) (hl : l.length < 4294967296) (hf : l.length < f) : zeh f ((l, ()), ()) = some ((fewB l, ()), ()) := by
  show iter (zgX f) f ((0 : Int), l) = _
  refine (zlJ (st := zgX f) (enc := fun i (s : Unit) => ((i : Int), l)) (fun x p k s => cond (decide (p < x ∧ 0 ≤ x ∧ x ≤ 63)) (k s) (some ((false, ()), ()))) (fun s => some ((decide (l.length ≤ 6), ()), ())) l 0 (-1) id ?_ ?_ f () hf).trans ?_
  · intro i s g hi
    show zeg f g _ = _
    unfold zeg
    simp only [zz_eq, lt_cast hi, le_cast, decide_true, cond_true, Int.toNat_natCast, w64_up (show i < 4294967296 by omega), in_eq, Option.bind_some, id]
    obtain ⟨x, hx⟩ : ∃ x : Int, l.getD i 0 = x := ⟨_, rfl⟩
    simp only [hx]
    by_cases c1 : 0 ≤ x ∧ x ≤ 63
    · by_cases z : i = 0
      · have : -1 < x ∧ 0 ≤ x ∧ x ≤ 63 := by omega
        simp only [zlK z, c1, this, z, and_self, if_true, decide_true, decide_false, cond_true, cond_false, Bool.not_true]
        subst z; rfl
      · have g1 : i - 1 < l.length := by omega
        simp only [zlL z, w64_dn z (show i < 4294967296 by omega), lt_cast g1, le_cast, c1, z, and_self, if_false, decide_true, decide_false, cond_true, cond_false, Bool.not_true, Int.toNat_natCast]
        obtain ⟨y, hy⟩ : ∃ y : Int, l.getD (i - 1) 0 = y := ⟨_, rfl⟩
        simp only [hy]
        by_cases c2 : y ≥ x
        · have : ¬ (y < x ∧ True) := fun h => by have := h.1; omega
          simp only [c2, this, and_self, and_true, true_and, and_false, false_and, decide_true, decide_false, cond_true, cond_false]
        · have : (y < x ∧ True) := ⟨by omega, trivial⟩
          simp only [c2, this, and_self, and_true, true_and, and_false, false_and, decide_true, decide_false, cond_true, cond_false]
    · have : ∀ p : Int, ¬ (p < x ∧ 0 ≤ x ∧ x ≤ 63) := fun p h => c1 h.2
      simp only [c1, this, and_self, and_true, true_and, and_false, false_and, decide_true, decide_false, cond_true, cond_false, Bool.not_false]
  · intro s g
    show zeg f g _ = _
    unfold zeg
    have : ((l.length : Int) ≤ 6) = (l.length ≤ 6) := by apply propext; omega
    simp only [zz_eq, zh, decide_false, cond_false, this]
  · have : ∀ (q : Bool) (l : List Int) (p : Int), -1 ≤ p → goL (R := ((Bool × Unit) × Unit)) (fun x k (ps : Int × Unit) => cond (decide (ps.1 < x ∧ 0 ≤ x ∧ x ≤ 63)) (k (id x, ps.2)) (some ((false, ()), ()))) (fun s => some ((q, ()), ())) l (p, ()) = some ((q && fewGo l p, ()), ()) := by
      intro q l
      induction l with
      | nil => intro p _; cases q <;> rfl
      | cons x l ih =>
        intro p hp
        show cond _ (goL _ _ l (x, ())) _ = _
        unfold fewGo
        by_cases c : p < x ∧ x ≤ 63
        · have : p < x ∧ 0 ≤ x ∧ x ≤ 63 := by omega
          rw [ih x (by omega)]
          simp only [c, this, and_self, decide_true, cond_true, Bool.true_and]
        · have : ¬ (p < x ∧ 0 ≤ x ∧ x ≤ 63) := by omega
          simp only [c, this, decide_false, cond_false, Bool.false_and, Bool.and_false]
    unfold fewB
    exact this _ l (-1) (by omega)
def topGo (all : Int) : List Knot → Int → Int → Bool
  | [], _, s => decide (s ≤ all)
  | x :: r, p, s => decide (p < x.1 ∧ x.1 ≤ 63 ∧ 1 ≤ x.2.1 ∧ x.2.1 ≤ 2000) && topGo all r x.1 (w64 (s + x.2.1))
def topB (l : List Knot) (lost all : Int) : Bool := decide (l.length ≤ 4 ∧ 0 ≤ lost ∧ lost ≤ 2000 ∧ 0 ≤ all ∧ all ≤ 2000) && topGo all l (-1) (lost * 5)
def tsum (l : List Knot) : Int := l.foldl (fun s x => w64 (s + x.2.1)) 0
theorem tsum_eq (f : Nat) (l : List Knot) (hl : l.length < 4294967296) (hf : l.length < f) : zg1 f ((l, ()), ()) = some ((tsum l, ()), ()) := by
  show iter (zg0 f) f ((0 : Int), l, (0 : Int)) = _
  refine (zaH (st := zg0 f) (enc := fun i s => ((i : Int), l, s)) (fun (x : Knot) k s => k (w64 (s + x.2.1))) (fun s => some ((s, ()), ())) l (0, 0, ()) ?_ ?_ f 0 hf).trans (fold_go (fun s x => w64 (s + x.2.1)) (fun _ _ _ => rfl) l 0)
  · intro i s g hi
    show zek f g _ = _
    unfold zek
    simp only [zz_eq, lt_cast hi, le_cast, decide_true, cond_true, Int.toNat_natCast, w64_up (Nat.lt_trans hi hl)]
  · intro s g
    show zek f g _ = _
    unfold zek
    simp only [zz_eq, zh, decide_false, cond_false]
def topAsc : List Knot → Int → Bool
  | [], _ => true
  | x :: r, p => decide (p < x.1 ∧ x.1 ≤ 63 ∧ 1 ≤ x.2.1 ∧ x.2.1 ≤ 2000) && topAsc r x.1
def psum : List Knot → Int
  | [] => 0
  | x :: r => x.2.1 + psum r
theorem zq0 (all : Int) : ∀ (l : List Knot) (p s : Int), 0 ≤ s → s + 2000 * l.length ≤ 1000000000000 → topGo all l p s = (topAsc l p && decide (s + psum l ≤ all))
  | [], p, s, _, _ => by simp [topGo, topAsc, psum]
  | x :: l, p, s, h0, h1 => by
    unfold topGo topAsc psum
    simp only [List.length_cons] at h1
    by_cases c : p < x.1 ∧ x.1 ≤ 63 ∧ 1 ≤ x.2.1 ∧ x.2.1 ≤ 2000
    · have e : w64 (s + x.2.1) = s + x.2.1 := by rw [w64_id] <;> omega
      rw [e, zq0 all l x.1 _ (by omega) (by omega)]
      simp only [c, and_self, decide_true, Bool.true_and, Int.add_assoc]
    · simp only [c, decide_false, Bool.false_and]
theorem tsum_go : ∀ (l : List Knot) (p s : Int), 0 ≤ s → s + 2000 * l.length ≤ 1000000000000 → topAsc l p = true → l.foldl (fun s x => w64 (s + x.2.1)) s = s + psum l ∧ 0 ≤ psum l ∧ psum l ≤ 2000 * l.length
  | [], p, s, _, _, _ => by simp [psum]
  | x :: l, p, s, h0, h1, h2 => by
    unfold topAsc at h2
    simp only [Bool.and_eq_true, decide_eq_true_eq] at h2
    simp only [List.length_cons] at h1 ⊢
    have e : w64 (s + x.2.1) = s + x.2.1 := by rw [w64_id] <;> omega
    obtain ⟨a, b, c⟩ := tsum_go l x.1 (s + x.2.1) (by omega) (by omega) h2.2
    unfold psum
    simp only [List.foldl_cons, e, a]
    omega
theorem zq1 (f : Nat) (l : List Knot) (lost all : Int) (hl : l.length < 4294967296) (hf : l.length < f) : zeo f ((l, lost, all, ()), ()) = some ((topB l lost all, ()), ()) := by
  show iter (zg3 f) f ((0 : Int), l, lost, all) = _
  refine (zlJ (st := zg3 f) (enc := fun i (s : Unit) => ((i : Int), l, lost, all)) (fun x p k s => cond (decide (p < x.1 ∧ 0 ≤ x.1 ∧ x.1 ≤ 63 ∧ 1 ≤ x.2.1 ∧ x.2.1 ≤ 2000)) (k s) (some ((false, ()), ()))) (fun s => some ((decide (l.length ≤ 4 ∧ 0 ≤ lost ∧ lost ≤ 2000 ∧ 0 ≤ all ∧ all ≤ 2000) && decide (w64 (tsum l + w64 (5 * lost)) ≤ all), ()), ())) l (0, 0, ()) (-1) (fun x => x.1) ?_ ?_ f () hf).trans ?_
  · intro i s g hi
    show zen f g _ = _
    unfold zen
    simp only [zz_eq, lt_cast hi, le_cast, decide_true, cond_true, Int.toNat_natCast, w64_up (show i < 4294967296 by omega), in_eq, Option.bind_some]
    obtain ⟨x, hx⟩ : ∃ x : Knot, l.getD i (0, 0, ()) = x := ⟨_, rfl⟩
    simp only [hx]
    by_cases c1 : 0 ≤ x.1 ∧ x.1 ≤ 63
    · by_cases c3 : 1 ≤ x.2.1 ∧ x.2.1 ≤ 2000
      · by_cases z : i = 0
        · have : -1 < x.1 ∧ 0 ≤ x.1 ∧ x.1 ≤ 63 ∧ 1 ≤ x.2.1 ∧ x.2.1 ≤ 2000 := by omega
          simp only [zlK z, c1, c3, this, z, and_self, if_true, decide_true, decide_false, cond_true, cond_false, Bool.not_true]
          subst z; rfl
        · have g1 : i - 1 < l.length := by omega
          simp only [zlL z, w64_dn z (show i < 4294967296 by omega), lt_cast g1, le_cast, c1, c3, z, and_self, if_false, decide_true, decide_false, cond_true, cond_false, Bool.not_true, Int.toNat_natCast]
          obtain ⟨y, hy⟩ : ∃ y : Knot, l.getD (i - 1) (0, 0, ()) = y := ⟨_, rfl⟩
          simp only [hy]
          by_cases c2 : y.1 ≥ x.1
          · have : ¬ (y.1 < x.1 ∧ True) := fun h => by have := h.1; omega
            simp only [c2, this, and_self, and_true, true_and, and_false, false_and, decide_true, decide_false, cond_true, cond_false]
          · have : (y.1 < x.1 ∧ True) := ⟨by omega, trivial⟩
            simp only [c2, this, and_self, and_true, true_and, and_false, false_and, decide_true, decide_false, cond_true, cond_false]
      · have : ∀ p : Int, ¬ (p < x.1 ∧ 0 ≤ x.1 ∧ x.1 ≤ 63 ∧ 1 ≤ x.2.1 ∧ x.2.1 ≤ 2000) := fun p h => c3 h.2.2.2
        simp only [c1, c3, this, and_self, and_true, true_and, and_false, false_and, decide_true, decide_false, cond_true, cond_false, Bool.not_false, Bool.not_true]
    · have : ∀ p : Int, ¬ (p < x.1 ∧ 0 ≤ x.1 ∧ x.1 ≤ 63 ∧ 1 ≤ x.2.1 ∧ x.2.1 ≤ 2000) := fun p h => c1 ⟨h.2.1, h.2.2.1⟩
      simp only [c1, this, and_self, and_true, true_and, and_false, false_and, decide_true, decide_false, cond_true, cond_false, Bool.not_false]
  · intro s g
    show zen f g _ = _
    unfold zen
    simp only [zz_eq, zh, decide_false, cond_false, in_eq, Option.bind_some, tsum_eq f l hl hf]
    by_cases h1 : l.length ≤ 4
    · have e1 : ((l.length : Int) ≤ 4) := by omega
      by_cases h2 : 0 ≤ all ∧ all ≤ 2000
      · by_cases h3 : 0 ≤ lost ∧ lost ≤ 2000
        · simp only [h1, e1, h2, h3, and_self, decide_true, cond_true, Bool.true_and]
        · have : ¬ (l.length ≤ 4 ∧ 0 ≤ lost ∧ lost ≤ 2000 ∧ 0 ≤ all ∧ all ≤ 2000) := by omega
          rw [decide_eq_false this]
          simp only [e1, h2, h3, and_self, decide_true, cond_true, decide_false, cond_false, Bool.false_and]
      · have : ¬ (l.length ≤ 4 ∧ 0 ≤ lost ∧ lost ≤ 2000 ∧ 0 ≤ all ∧ all ≤ 2000) := by omega
        rw [decide_eq_false this]
        simp only [e1, h2, and_self, decide_true, cond_true, decide_false, cond_false, Bool.false_and]
    · have e1 : ¬ ((l.length : Int) ≤ 4) := by omega
      have : ¬ (l.length ≤ 4 ∧ 0 ≤ lost ∧ lost ≤ 2000 ∧ 0 ≤ all ∧ all ≤ 2000) := by omega
      simp only [e1, this, and_self, decide_true, cond_true, decide_false, cond_false, Bool.false_and]
  · have : ∀ (q : Bool) (l : List Knot) (p : Int), -1 ≤ p → goL (R := ((Bool × Unit) × Unit)) (fun (x : Knot) k (ps : Int × Unit) => cond (decide (ps.1 < x.1 ∧ 0 ≤ x.1 ∧ x.1 ≤ 63 ∧ 1 ≤ x.2.1 ∧ x.2.1 ≤ 2000)) (k (x.1, ps.2)) (some ((false, ()), ()))) (fun s => some ((q, ()), ())) l (p, ()) = some ((topAsc l p && q, ()), ()) := by
      intro q l
      induction l with
      | nil => intro p _; rfl
      | cons x l ih =>
        intro p hp
        show cond _ (goL _ _ l (x.1, ())) _ = _
        unfold topAsc
        by_cases c : p < x.1 ∧ x.1 ≤ 63 ∧ 1 ≤ x.2.1 ∧ x.2.1 ≤ 2000
        · have : p < x.1 ∧ 0 ≤ x.1 ∧ x.1 ≤ 63 ∧ 1 ≤ x.2.1 ∧ x.2.1 ≤ 2000 := by omega
          rw [ih x.1 (by omega)]
          simp only [c, this, and_self, decide_true, cond_true, Bool.true_and]
        · have : ¬ (p < x.1 ∧ 0 ≤ x.1 ∧ x.1 ≤ 63 ∧ 1 ≤ x.2.1 ∧ x.2.1 ≤ 2000) := by omega
          simp only [c, this, decide_false, cond_false, Bool.false_and, Bool.and_false]
    refine (this _ l (-1) (by omega)).trans ?_
    unfold topB
    by_cases h : l.length ≤ 4 ∧ 0 ≤ lost ∧ lost ≤ 2000 ∧ 0 ≤ all ∧ all ≤ 2000
    · rw [zq0 all l (-1) (lost * 5) (by omega) (by omega)]
      simp only [h, and_self, decide_true, Bool.true_and]
      cases ht : topAsc l (-1)
      · rfl
      · obtain ⟨a, b, c⟩ := tsum_go l (-1) 0 (by omega) (by omega) ht
        have e : w64 (tsum l + w64 (5 * lost)) = lost * 5 + psum l := by
          have e1 : tsum l = psum l := by unfold tsum; rw [a]; omega
          rw [e1, w64_id (x := 5 * lost) (by omega) (by omega), w64_id (by omega) (by omega)]; omega
        rw [e]
    · simp only [h, decide_false, Bool.false_and, Bool.and_false]
def allR (rs : List (List Int)) : Int := cond (roughB rs) (isum (rs.getD 0 [])) (-1)
theorem zzN (f : Nat) (rs : List (List Int)) (hf : 8 < f) (hr : ∀ r ∈ rs, r.length < f ∧ r.length < 4294967296) : zg8 f ((rs, ()), ()) = some ((allR rs, ()), ()) := by
  show zjy f rs = _
  unfold zjy allR
  rw [zlN f rs hf hr, Option.bind_some]
  cases h : roughB rs
  · rfl
  · have h' := h
    unfold roughB at h'
    simp only [Bool.and_eq_true, decide_eq_true_eq] at h'
    obtain ⟨h3, h4⟩ := h'
    obtain ⟨a, b, c, rfl⟩ := three h3
    have := hr a (by simp)
    simp only [zz_eq, Bool.not_true, cond_false, List.length_cons, List.length_nil, Int.toNat_zero, List.getD_cons_zero, isum_eq f a this.2 this.1, cond_true, Option.bind_some]
    rfl
def sumB (rs : List (List Int)) (ms : List Int) (ps : List Knot) (lost tall : Int) (ks : List Knot) (rall : Int) : Bool :=
  roughB rs && (fewB ms && (topB ps lost tall && (okB ks rall && ((allR rs == tall) && ((tall == rall) && (decide ((ms.length : Int) > 0) == decide (tall > 0)))))))
theorem zzO (f : Nat) (rs : List (List Int)) (ms : List Int) (ps : List Knot) (lost tall : Int) (ks : List Knot) (rall : Int) (hf : 8 < f)
    (hr : ∀ r ∈ rs, r.length < f ∧ r.length < 4294967296) (hm : ms.length < 4294967296 ∧ ms.length < f) (hp : ps.length < 4294967296 ∧ ps.length < f) (hk : ks.length < 4294967296 ∧ ks.length < f) :
    zeu f ((rs, ms, ps, lost, tall, ks, rall, ()), ()) = some ((sumB rs ms ps lost tall ks rall, ()), ()) := by
  show zjA f rs ms ps lost tall ks rall = _
  unfold zjA sumB
  simp only [zlN f rs hf hr, zqZ f ms hm.1 hm.2, zq1 f ps lost tall hp.1 hp.2, zqY f ks rall hk.1 hk.2, zzN f rs hf hr, Option.bind_some, zz_eq]
  cases roughB rs <;> cases fewB ms <;> cases topB ps lost tall <;> cases okB ks rall <;> cases allR rs == tall <;> cases tall == rall <;> rfl
def thingB (t : Int) : Bool := decide (0 ≤ t ∧ t ≤ 63)
theorem zcc (f : Nat) (n : Int) : zc f ((n, ()), ((0 : Int), ()), ((63 : Int), ()), ()) = some ((thingB n, ()), ()) := in_eq f n 0 63
def mark (t : Int) : Int := cond (thingB t) (Int.tmod (w64 (w64 (t * 37) + 11)) 64) (-1)
theorem zzP (f : Nat) (t : Int) : zhe f ((t, ()), ()) = some ((mark t, ()), ()) := by
  show zjN f t = _
  unfold zjN mark
  rw [zcc, Option.bind_some]
  cases thingB t <;> rfl
theorem six {ms : List Int} (h : fewB ms = true) : ms.length ≤ 6 := by
  unfold fewB at h
  simp only [Bool.and_eq_true, decide_eq_true_eq] at h
  exact h.1
def pl (i : Nat) (t : Int) : Nat := match i with
  | 0 => ((3 * t + t / 8) % 8).toNat
  | 1 => ((5 * t + t / 16 + 1) % 8).toNat
  | _ => ((t + t / 4 + 2) % 8).toNat
theorem pl_lt (i : Nat) (t : Int) : pl i t < 8 := by
  unfold pl; split <;> omega
theorem tmod8 {x : Int} (h : 0 ≤ x) : Int.tmod x 8 = x % 8 := Int.tmod_eq_emod_of_nonneg h
theorem tdivP {x y : Int} (h : 0 ≤ x) : Int.tdiv x y = x / y := Int.tdiv_eq_ediv_of_nonneg h
theorem zjn {t : Int} (h : thingB t = true) : 0 ≤ t ∧ t ≤ 63 := by unfold thingB at h; simpa using h
theorem zlO (f : Nat) (i : Nat) (t : Int) (hi : i < 3) (ht : thingB t = true) : zaJ f ((((i : Nat) : Int), ()), (t, ()), ()) = some (((pl i t : Int), ()), ()) := by
  have h := zjn ht
  show zjI f (i : Int) t = _
  unfold zjI pl
  match i, hi with
  | 0, _ =>
    simp only [List.length_cons, List.length_nil, Int.natCast_zero, Int.toNat_zero, List.getD_cons_zero]
    have e1 : w64 (t * 3) = t * 3 := by rw [w64_id] <;> omega
    have e2 : w64 (Int.tdiv t 8) = t / 8 := by rw [tdivP h.1, w64_id] <;> omega
    have e3 : w64 (t * 3 + t / 8) = t * 3 + t / 8 := by rw [w64_id] <;> omega
    have e4 : w64 (t * 3 + t / 8 + 0) = t * 3 + t / 8 := by rw [w64_id] <;> omega
    rw [e1, e2, e3, e4, tmod8 (by omega)]
    have e5 : (t * 3 + t / 8) % 8 = (((3 * t + t / 8) % 8).toNat : Int) := by omega
    rw [e5]; rfl
  | 1, _ =>
    simp only [List.length_cons, List.length_nil]
    have e1 : w64 (t * 5) = t * 5 := by rw [w64_id] <;> omega
    have e2 : w64 (Int.tdiv t 16) = t / 16 := by rw [tdivP h.1, w64_id] <;> omega
    have e3 : w64 (t * 5 + t / 16) = t * 5 + t / 16 := by rw [w64_id] <;> omega
    have e4 : w64 (t * 5 + t / 16 + 1) = t * 5 + t / 16 + 1 := by rw [w64_id] <;> omega
    have g1 : List.getD [(3 : Int), (5 : Int), (1 : Int)] (Int.toNat ((1 : Nat) : Int)) 0 = 5 := rfl
    have g2 : List.getD [(8 : Int), (16 : Int), (4 : Int)] (Int.toNat ((1 : Nat) : Int)) 0 = 16 := rfl
    rw [g1, g2, e1, e2, e3, show ((1 : Nat) : Int) = 1 from rfl, e4, tmod8 (by omega)]
    have e5 : (t * 5 + t / 16 + 1) % 8 = (((5 * t + t / 16 + 1) % 8).toNat : Int) := by omega
    rw [e5]; rfl
  | 2, _ =>
    simp only [List.length_cons, List.length_nil]
    have e1 : w64 (t * 1) = t := by rw [w64_id] <;> omega
    have e2 : w64 (Int.tdiv t 4) = t / 4 := by rw [tdivP h.1, w64_id] <;> omega
    have e3 : w64 (t + t / 4) = t + t / 4 := by rw [w64_id] <;> omega
    have e4 : w64 (t + t / 4 + 2) = t + t / 4 + 2 := by rw [w64_id] <;> omega
    have g1 : List.getD [(3 : Int), (5 : Int), (1 : Int)] (Int.toNat ((2 : Nat) : Int)) 0 = 1 := rfl
    have g2 : List.getD [(8 : Int), (16 : Int), (4 : Int)] (Int.toNat ((2 : Nat) : Int)) 0 = 4 := rfl
    rw [g1, g2, e1, e2, e3, show ((2 : Nat) : Int) = 2 from rfl, e4, tmod8 (by omega)]
    have e5 : (t + t / 4 + 2) % 8 = (((t + t / 4 + 2) % 8).toNat : Int) := by omega
    rw [e5]; rfl
theorem zjo {rs : List (List Int)} (h : roughB rs = true) : ∃ a b c, rs = [a, b, c] ∧ rowB a = true ∧ rowB b = true ∧ rowB c = true ∧ isum b = isum a ∧ isum c = isum a := by
  unfold roughB at h
  simp only [Bool.and_eq_true, decide_eq_true_eq] at h
  obtain ⟨h3, h4⟩ := h
  obtain ⟨a, b, c, rfl⟩ := three h3
  simp only [List.all_cons, List.all_nil, Bool.and_eq_true, List.getD_cons_zero, beq_iff_eq] at h4
  exact ⟨a, b, c, rfl, h4.1.1, h4.2.1.1, h4.2.2.1.1, h4.2.1.2, h4.2.2.1.2⟩
theorem row_len {a : List Int} (h : rowB a = true) : a.length = 8 := by
  unfold rowB at h
  simp only [Bool.and_eq_true, decide_eq_true_eq] at h
  exact h.1
def GoodK (ks : List Knot) : Prop := ∀ k ∈ ks, 1 ≤ k.1 ∧ k.1 ≤ 127 ∧ 1 ≤ k.2.1 ∧ k.2.1 ≤ 2000
theorem zq2 {all : Int} : ∀ {ks : List Knot} {before sum : Int}, 0 ≤ before → okGo all ks before sum = true → GoodK ks
  | [], _, _, _, _ => fun k hk => by cases hk
  | k :: r, before, sum, hb, h => by
    unfold okGo at h
    split at h
    · cases h
    · rename_i c
      have ih := zq2 (by omega) h
      intro k' hk'
      rcases List.mem_cons.1 hk' with rfl | hk'
      · omega
      · exact ih k' hk'
theorem zlP {ks : List Knot} {all : Int} (h : okB ks all = true) : GoodK ks := by
  unfold okB at h
  split at h
  · cases h
  · exact zq2 (Int.le_refl _) h
def numsGo : List Knot → List Int → List Int
  | [], a => a
  | k :: r, a => numsGo r (a.set k.1.toNat (w64 (a.getD k.1.toNat 0 + k.2.1)))
def zeros : List Int := List.replicate 128 0
theorem zlQ : ∀ {ks : List Knot} {a : List Int}, (numsGo ks a).length = a.length
  | [], a => rfl
  | k :: r, a => by rw [numsGo, zlQ]; simp
def sq1 (all : Int) (n : Nat) (a : List Int) : List Int :=
  if 0 < w64 (a.getD (2 * n) 0 + a.getD (2 * n + 1) 0) ∧ w64 (w64 (a.getD (2 * n) 0 + a.getD (2 * n + 1) 0) + a.getD n 0) ≤ w64 (all.tdiv 8) then
    ((a.set n (w64 (a.getD n 0 + w64 (a.getD (2 * n) 0 + a.getD (2 * n + 1) 0)))).set (2 * n) 0).set (2 * n + 1) 0
  else a
def sqGo (all : Int) : Nat → List Int → List Int
  | 0, a => a
  | n + 1, a => sqGo all n (sq1 all (n + 1) a)
theorem sq1_len {all : Int} {n : Nat} {a : List Int} : (sq1 all n a).length = a.length := by
  unfold sq1; split <;> simp
theorem zlR {all : Int} : ∀ {n : Nat} {a : List Int}, (sqGo all n a).length = a.length
  | 0, a => rfl
  | n + 1, a => by rw [sqGo, zlR, sq1_len]
def listGo : Nat → List Int → List Knot
  | _, [] => []
  | i, x :: r => if 0 < x then ((i : Int), x, ()) :: listGo (i + 1) r else listGo (i + 1) r
theorem zq3 : ∀ {i : Nat} {l : List Int}, (listGo i l).length ≤ l.length
  | _, [] => by simp [listGo]
  | i, x :: r => by
    unfold listGo
    have := zq3 (i := i + 1) (l := r)
    split <;> simp <;> omega
theorem znQ (f : Nat) (ks : List Knot) (hl : ks.length < 4294967296) (hg : GoodK ks) : ∀ (d i : Nat) (a : List Int) (fuel : Nat), i + d = ks.length → a.length = 128 → d < fuel →
    iter (zhp f) fuel ((i : Int), ks, a) = some ((numsGo (ks.drop i) a, ()), ())
  | 0, i, a, fuel + 1, hi, ha, hf => by
    rw [iter]
    show zeV f _ _ = _
    unfold zeV
    have h1 : ¬ ((i : Int) < (ks.length : Int)) := by omega
    have h2 : ks.drop i = [] := List.drop_eq_nil_of_le (by omega)
    simp [h1, h2, numsGo, zz_eq]
  | d + 1, i, a, fuel + 1, hi, ha, hf => by
    rw [iter]
    show zeV f _ _ = _
    unfold zeV
    have h1 : (i : Int) < (ks.length : Int) := by omega
    have h2 : (0 : Int) ≤ (i : Int) := by omega
    have h3 : w64 ((i : Int) + 1) = (i : Int) + 1 := by rw [w64_id] <;> omega
    have ih : ∀ a : List Int, a.length = 128 → iter (zhp f) fuel ((i : Int) + 1, ks, a) = some ((numsGo (ks.drop (i + 1)) a, ()), ()) := fun a ha => by
      exact_mod_cast znQ f ks hl hg d (i + 1) a fuel (by omega) ha (by omega)
    have hk := hg (ks.getD i (0, 0, ())) (by
      rw [List.getD_eq_getElem?_getD, List.getElem?_eq_getElem (by omega)]; exact List.getElem_mem _)
    rw [zlM (0, 0, ()) (show i < ks.length by omega)]
    simp only [h1, h2, h3, zz_eq, Int.toNat_natCast, decide_true, cond_true]
    obtain ⟨k, hk'⟩ : ∃ k : Knot, ks.getD i (0, 0, ()) = k := ⟨_, rfl⟩
    simp only [hk'] at hk ⊢
    have c1 : 0 ≤ k.1 := by omega
    have c2 : k.1 < ((a.length : Nat) : Int) := by omega
    have c3 : k.1.toNat < a.length := by omega
    simp only [c1, c2, c3, decide_true, cond_true]
    rw [ih _ (by simpa using ha)]
    rfl
theorem zzQ (f : Nat) (ks : List Knot) (hl : ks.length < 4294967296) (hg : GoodK ks) (hf : ks.length < f) : zeW f ((ks, ()), ()) = some ((numsGo ks zeros, ()), ()) := by
  unfold zeW zjZ
  have := znQ f ks hl hg ks.length 0 zeros f (by omega) (by simp [zeros]) hf
  simpa [zeros] using this
theorem tdiv2 (n : Nat) : Int.tdiv (2 * (n : Int)) 2 = n := by
  rw [Int.tdiv_eq_ediv_of_nonneg (by omega)]; omega
theorem znR (f : Nat) (all : Int) : ∀ (n : Nat) (a : List Int) (fuel : Nat), n ≤ 63 → a.length = 128 → n < fuel →
    iter (zht f) fuel (2 * (n : Int), all, a) = some (sqGo all n a, ())
  | 0, a, fuel + 1, hn, ha, hf => by
    rw [iter]
    show ze3 f _ _ = _
    unfold ze3
    simp [sqGo]
  | n + 1, a, fuel + 1, hn, ha, hf => by
    rw [iter]
    show ze3 f _ _ = _
    unfold ze3
    have ih : ∀ a : List Int, a.length = 128 → iter (zht f) fuel (2 * (n : Int), all, a) = some (sqGo all n a, ()) := fun a ha =>
      znR f all n a fuel (by omega) ha (by omega)
    have h1 : (2 * ((n + 1 : Nat) : Int)) ≥ 2 := by omega
    have h2 : (0 : Int) ≤ 2 * ((n + 1 : Nat) : Int) := by omega
    have h3 : 2 * ((n + 1 : Nat) : Int) < 128 := by omega
    have h4 : w64 (2 * ((n + 1 : Nat) : Int) + 1) = ((2 * (n + 1) + 1 : Nat) : Int) := by rw [w64_id] <;> omega
    have h5 : w64 (Int.tdiv (2 * ((n + 1 : Nat) : Int)) 2) = ((n + 1 : Nat) : Int) := by rw [tdiv2, w64_id] <;> omega
    have h6 : w64 (2 * ((n + 1 : Nat) : Int) - 2) = 2 * (n : Int) := by rw [w64_id] <;> omega
    have h7 : (2 * ((n + 1 : Nat) : Int)).toNat = 2 * (n + 1) := by omega
    have l1 : 2 * (n + 1) < 128 := by omega
    have l2 : 2 * (n + 1) + 1 < 128 := by omega
    have l3 : n + 1 < 128 := by omega
    have l4 : ((2 * (n + 1) + 1 : Nat) : Int) < 128 := by omega
    have l5 : ((n + 1 : Nat) : Int) < 128 := by omega
    simp only [h1, h2, h4, h5, h6, h7, zz_eq, List.length_set, ha, Int.toNat_natCast, Int.natCast_nonneg, decide_true, cond_true, l1, l2, l3, show (((128 : Nat) : Int)) = 128 from rfl, h3, l4, l5]
    unfold sqGo sq1
    by_cases c1 : 0 < w64 (a.getD (2 * (n + 1)) 0 + a.getD (2 * (n + 1) + 1) 0)
    · by_cases c2 : w64 (w64 (a.getD (2 * (n + 1)) 0 + a.getD (2 * (n + 1) + 1) 0) + a.getD (n + 1) 0) ≤ w64 (all.tdiv 8)
      · rw [if_pos ⟨c1, c2⟩]
        simp only [c1, c2, gt_iff_lt, decide_true, cond_true]
        exact ih _ (by simpa using ha)
      · rw [if_neg (fun h => c2 h.2)]
        simp only [c1, c2, gt_iff_lt, decide_true, decide_false, cond_true, cond_false]
        exact ih _ ha
    · rw [if_neg (fun h => c1 h.1)]
      simp only [c1, gt_iff_lt, decide_false, cond_false]
      exact ih _ ha
theorem zzR (f : Nat) (a : List Int) (all : Int) (ha : a.length = 128) (hf : 63 < f) : ze4 f (a, (), (all, ()), ()) = some (sqGo all 63 a, ()) := by
  unfold ze4 zj3
  have := znR f all 63 a f (by omega) ha hf
  have e : w64 ((zz a.length) - 2) = 2 * ((63 : Nat) : Int) := by rw [zz_eq, ha, w64_id] <;> omega
  simp only [e]
  exact this
theorem znS (f : Nat) (a : List Int) (ha : a.length = 128) : ∀ (d i : Nat) (out : List Knot) (fuel : Nat), i + d = 128 → out.length ≤ i → d < fuel →
    iter (zhr f) fuel ((i : Int), a, out) = some ((out ++ listGo i (a.drop i), ()), ())
  | 0, i, out, fuel + 1, hi, ho, hf => by
    rw [iter]
    show zeZ f _ _ = _
    unfold zeZ
    have h1 : ¬ ((i : Int) < (a.length : Int)) := by omega
    have h2 : a.drop i = [] := List.drop_eq_nil_of_le (by omega)
    simp [h1, h2, listGo, zz_eq]
  | d + 1, i, out, fuel + 1, hi, ho, hf => by
    rw [iter]
    show zeZ f _ _ = _
    unfold zeZ
    have h1 : (i : Int) < (a.length : Int) := by omega
    have h2 : (0 : Int) ≤ (i : Int) := by omega
    have h3 : w64 ((i : Int) + 1) = (i : Int) + 1 := by rw [w64_id] <;> omega
    have ih : ∀ out : List Knot, out.length ≤ i + 1 → iter (zhr f) fuel ((i : Int) + 1, a, out) = some ((out ++ listGo (i + 1) (a.drop (i + 1)), ()), ()) := fun out ho => by
      exact_mod_cast znS f a ha d (i + 1) out fuel (by omega) ho (by omega)
    have h4 : out.length + 1 < LIM := by simp only [LIM]; omega
    rw [zlM 0 (show i < a.length by omega)]
    simp only [h1, h2, h3, zz_eq, Int.toNat_natCast, decide_true, cond_true, listGo, List.length_singleton, h4]
    by_cases c : 0 < a.getD i 0
    · simp only [c, gt_iff_lt, decide_true, cond_true, if_true]
      rw [ih _ (by simp; omega)]
      simp
    · simp only [c, gt_iff_lt, decide_false, cond_false, if_false]
      exact ih _ (by omega)
theorem zzS (f : Nat) (a : List Int) (ha : a.length = 128) (hf : 128 < f) : ze0 f ((a, ()), ()) = some ((listGo 1 (a.drop 1), ()), ()) := by
  unfold ze0 zj1
  have := znS f a ha 127 1 [] f (by omega) (by simp) (by omega)
  simpa using this
def addB (ks : List Knot) (all t : Int) : Bool := okB ks all && decide (0 ≤ t ∧ t ≤ 63 ∧ all < 2000)
def addS (ks : List Knot) (all t : Int) : List Knot := listGo 1 ((sqGo (w64 (all + 1)) 63 ((numsGo ks zeros).set (64 + t).toNat (w64 ((numsGo ks zeros).getD (64 + t).toNat 0 + 1)))).drop 1)
theorem zzT (f : Nat) (ks : List Knot) (all t : Int) (hl : ks.length < 4294967296) (hf : ks.length < f) (hf2 : 128 < f) :
    zcD f ((ks, all, ()), (t, ()), ()) = some (if addB ks all t = true then ((addS ks all t, w64 (all + 1), ()), (true, ()), ()) else (([], 0, ()), (false, ()), ())) := by
  unfold zcD znB addB addS
  simp only [zqY f ks all hl hf, Option.bind_some, in_eq]
  by_cases c : okB ks all = true
  · by_cases c2 : 0 ≤ t ∧ t ≤ 63
    · by_cases c3 : all ≥ 2000
      · have c4 : ¬ all < 2000 := by omega
        simp [c, c2, c3, c4]
      · have c4 : all < 2000 := by omega
        have e1 : w64 (64 + t) = 64 + t := by rw [w64_id] <;> omega
        have hn : (numsGo ks zeros).length = 128 := by rw [zlQ]; simp [zeros]
        have e2 : 0 ≤ 64 + t := by omega
        have e3 : 64 + t < ((128 : Nat) : Int) := by omega
        have e4 : (64 + t).toNat < 128 := by omega
        simp only [c, c2, c3, c4, and_self, decide_true, decide_false, Bool.not_true, cond_false, zzQ f ks hl (zlP c) hf, Option.bind_some, e1, zz_eq, hn, e2, e3, e4, cond_true, Bool.and_true]
        rw [zzR f _ _ (by simpa using hn) (by omega)]
        simp only [Option.bind_some]
        rw [zzS f _ (by rw [zlR]; simpa using hn) hf2]
        simp
    · have : ¬ (0 ≤ t ∧ t ≤ 63 ∧ all < 2000) := by omega
      simp [c, c2, this]
  · simp [c]
def sumK (ka : List Knot) (kb : List Knot) (all : Int) : List Knot := listGo 0 (sqGo all 63 (numsGo kb (numsGo ka zeros)))
theorem zgM : ∀ {ks : List Knot} {a : List Int}, GoodK ks → (numsGo ks a).getD 0 0 = a.getD 0 0
  | [], a, _ => rfl
  | k :: r, a, hg => by
    have hk := hg k (by simp)
    rw [numsGo, zgM fun x hx => hg x (by simp [hx])]
    simp only [List.getD_eq_getElem?_getD]
    rw [List.getElem?_set_ne (by omega)]
theorem zzU {all : Int} {n : Nat} {a : List Int} (hn : 0 < n) : (sq1 all n a).getD 0 0 = a.getD 0 0 := by
  unfold sq1
  split
  · simp only [List.getD_eq_getElem?_getD]
    rw [List.getElem?_set_ne (by omega), List.getElem?_set_ne (by omega), List.getElem?_set_ne (by omega)]
  · rfl
theorem zlS {all : Int} : ∀ {n : Nat} {a : List Int}, (sqGo all n a).getD 0 0 = a.getD 0 0
  | 0, a => rfl
  | n + 1, a => by rw [sqGo, zlS, zzU (by omega)]
theorem zq4 {a : List Int} (h : a.getD 0 0 ≤ 0) : listGo 0 a = listGo 1 (a.drop 1) := by
  cases a with
  | nil => rfl
  | cons x r =>
    have : ¬ 0 < x := by simpa using h
    simp [listGo, this]
theorem okB_all {ks : List Knot} {all : Int} (h : okB ks all = true) : 0 ≤ all ∧ all ≤ 2000 := by
  unfold okB at h
  split at h
  · cases h
  · omega
theorem zzV {ks : List Knot} {all t : Int} (h : addB ks all t = true) : addS ks all t = sumK ks [(64 + t, 1, ())] (all + 1) ∧ w64 (all + 1) = all + 1 := by
  unfold addB at h
  simp only [Bool.and_eq_true, decide_eq_true_eq] at h
  have b := okB_all h.1
  have e : w64 (all + 1) = all + 1 := by rw [w64_id] <;> omega
  refine ⟨?_, e⟩
  unfold addS sumK
  rw [e]
  have g1 : GoodK [((64 + t, 1, ()) : Knot)] := fun k hk => by
    simp only [List.mem_singleton] at hk
    subst hk
    show 1 ≤ 64 + t ∧ 64 + t ≤ 127 ∧ (1 : Int) ≤ 1 ∧ (1 : Int) ≤ 2000
    omega
  rw [← zq4]
  · rfl
  · rw [zlS]
    have := zgM (ks := [((64 + t, 1, ()) : Knot)]) (a := numsGo ks zeros) g1
    rw [zgM (zlP h.1)] at this
    show (numsGo [((64 + t, 1, ()) : Knot)] (numsGo ks zeros)).getD 0 0 ≤ 0
    rw [this]; decide
theorem zzW {ks : List Knot} {all t : Int} : (addS ks all t).length ≤ 127 := by
  unfold addS
  refine Nat.le_trans zq3 ?_
  rw [List.length_drop, zlR, List.length_set, zlQ]
  simp [zeros]
def Bytes (b : List Int) : Prop := b.length ≤ 2000 ∧ ∀ x ∈ b, 0 ≤ x ∧ x ≤ 255
theorem Bytes.getD {b : List Int} (h : Bytes b) (i : Nat) : 0 ≤ b.getD i 0 ∧ b.getD i 0 ≤ 255 := by
  rw [List.getD_eq_getElem?_getD]
  cases hi : b[i]? with
  | none => simp
  | some x => simpa using h.2 x (List.mem_of_getElem? hi)
theorem zzX {x y : Int} (h1 : 0 ≤ x) (h2 : x < 4611686018427387904) (h3 : 0 ≤ y) (h4 : y < 4611686018427387904) :
    0 ≤ w64 (zz (BitVec.toNat (BitVec.ofInt (IntKind.bits IntKind.i64) x ^^^ BitVec.ofInt (IntKind.bits IntKind.i64) y))) := by
  show 0 ≤ w64 (zz (BitVec.toNat (BitVec.ofInt 64 x ^^^ BitVec.ofInt 64 y)))
  rw [BitVec.toNat_xor, BitVec.toNat_ofInt, BitVec.toNat_ofInt]
  have e1 : (x % ((2 ^ 64 : Nat) : Int)).toNat < 2 ^ 62 := by omega
  have e2 : (y % ((2 ^ 64 : Nat) : Int)).toNat < 2 ^ 62 := by omega
  have e3 := Nat.xor_lt_two_pow e1 e2
  rw [zz_eq, w64_id] <;> omega
def Rd (b : List Int) (p q : Int) (s : List Int × Int × Unit) : Prop := s.1 = b ∧ p ≤ s.2.1 ∧ s.2.1 ≤ q
theorem pick_ok (f : Nat) (b : List Int) (p n : Int) (hb : Bytes b) (h0 : 0 ≤ p) (h1 : p ≤ 1000000000) (hn : 1 ≤ n) :
    Ret (zb f ((b, p, ()), (n, ()), ())) fun s => Rd b p (p + 1) s.1 ∧ 0 ≤ s.2.1.1 ∧ s.2.1.1 < n := by
  unfold zb zmO
  have e1 : w64 (p + 1) = p + 1 := by rw [w64_id] <;> omega
  have e2 : w64 (p + 1 - 1) = p := by rw [w64_id] <;> omega
  have hlen := hb.1
  have hrd : Rd b p (p + 1) (b, p + 1, ()) := ⟨rfl, by show p ≤ p + 1; omega, Int.le_refl _⟩
  have t2 : (!decide (n = 0)) = true := by rw [decide_eq_false (by omega)]; rfl
  have hmod : ∀ {x : Int}, 0 ≤ x → 0 ≤ Int.tmod x n ∧ Int.tmod x n < n := fun {x} h => ⟨Int.tmod_nonneg n h, Int.tmod_lt_of_pos x (by omega)⟩
  simp only [e1, e2, zz_eq]
  refine Ret.cond (fun h => ?_) fun _ => ?_
  · have := of_decide_eq_true h; omega
  refine Ret.cond (fun h => Ret.ret ⟨hrd, by show (0 : Int) ≤ 0; omega, by show (0 : Int) < n; omega⟩) fun hz => ?_
  have hpos : 0 < b.length := by
    rcases Nat.eq_zero_or_pos b.length with h | h
    · rw [h] at hz; simp at hz
    · exact h
  have t1 : (!decide ((b.length : Int) = 0)) = true := by rw [decide_eq_false (by omega)]; rfl
  refine Ret.cond (fun h => ?_) fun _ => ?_
  · have hg := hb.getD p.toNat
    have e3 : w64 (b.getD p.toNat 0) = b.getD p.toNat 0 := by rw [w64_id] <;> omega
    refine Ret.tst (by simpa using h0) (Ret.tst h (Ret.tst t2 (Ret.ret ⟨hrd, ?_⟩)))
    show 0 ≤ Int.tmod _ n ∧ Int.tmod _ n < n
    rw [e3]; exact hmod hg.1
  · have hL : (0 : Int) < (b.length : Int) := by omega
    have e4 : w64 (w64 (p * 7) + 3) = p * 7 + 3 := by rw [w64_id (x := p * 7), w64_id] <;> omega
    have m1 := Int.tmod_nonneg (b.length : Int) h0
    have m2 := Int.tmod_lt_of_pos p hL
    have m3 := Int.tmod_nonneg (b.length : Int) (a := p * 7 + 3) (by omega)
    have m4 := Int.tmod_lt_of_pos (p * 7 + 3) hL
    have g1 := hb.getD (Int.tmod p (b.length : Int)).toNat
    have g2 := hb.getD (Int.tmod (p * 7 + 3) (b.length : Int)).toNat
    have d1 : 0 ≤ Int.tdiv p (b.length : Int) := Int.tdiv_nonneg h0 (by omega)
    have d2 : Int.tdiv p (b.length : Int) ≤ p := by
      rw [Int.tdiv_eq_ediv_of_nonneg h0]; exact Int.ediv_le_self _ h0
    simp only [e4]
    obtain ⟨u, hu⟩ : ∃ u, b.getD (Int.tmod p (b.length : Int)).toNat 0 = u := ⟨_, rfl⟩
    obtain ⟨w, hw⟩ : ∃ w, b.getD (Int.tmod (p * 7 + 3) (b.length : Int)).toNat 0 = w := ⟨_, rfl⟩
    obtain ⟨q, hq⟩ : ∃ q, Int.tdiv p (b.length : Int) = q := ⟨_, rfl⟩
    simp only [hu, hw, hq] at g1 g2 d1 d2 ⊢
    have e5 : w64 (w64 (w64 (w64 (w64 u * 131) + w64 (w64 w * 1117)) + w64 (p * 29)) + w64 (w64 q * 53)) = u * 131 + w * 1117 + p * 29 + q * 53 := by
      rw [w64_id (x := u), w64_id (x := u * 131), w64_id (x := w), w64_id (x := w * 1117), w64_id (x := p * 29), w64_id (x := q), w64_id (x := q * 53), w64_id (x := u * 131 + w * 1117), w64_id (x := u * 131 + w * 1117 + p * 29), w64_id] <;> omega
    simp only [e5]
    have e6 : w64 (Int.tdiv (u * 131 + w * 1117 + p * 29 + q * 53) 64) = (u * 131 + w * 1117 + p * 29 + q * 53) / 64 := by
      rw [Int.tdiv_eq_ediv_of_nonneg (by omega), w64_id] <;> omega
    rw [e6]
    refine Ret.tst t1 (Ret.tst (decide_eq_true m1) (Ret.tst (decide_eq_true m2) (Ret.tst t1 (Ret.tst (decide_eq_true m3) (Ret.tst (decide_eq_true m4) (Ret.tst t1 (Ret.tst t2 (Ret.ret ⟨hrd, ?_⟩))))))))
    exact hmod (zzX (by omega) (by omega) (by omega) (by omega))
theorem Rd.trans {b : List Int} {p q r : Int} {s t : List Int × Int × Unit} (h1 : Rd b p q s) (h2 : Rd b s.2.1 (s.2.1 + r) t) : Rd b p (q + r) t := ⟨h2.1, by have := h1.2; have := h2.2; omega, by have := h1.2; have := h2.2; omega⟩
theorem open_ok (f : Nat) (code : List Int) (hb : ∀ x ∈ code, 0 ≤ x ∧ x ≤ 255) : Ret (zg9 f ((code, ()), ())) fun s => Bytes s.1 ∧ s.2.1 = 0 := by
  show Ret (zjC f code) _
  unfold zjC
  have e := zz_eq code.length
  refine Ret.cond (fun h => Ret.tst ?_ (Ret.ret ⟨⟨?_, fun x hx => hb x ?_⟩, rfl⟩)) fun h => Ret.ret ⟨⟨?_, hb⟩, rfl⟩
  · have := of_decide_eq_true h; exact decide_eq_true (by omega)
  · show (List.drop 0 (List.take (Int.toNat 2000) code)).length ≤ 2000
    rw [List.drop_zero, List.length_take]; exact Nat.min_le_left _ _
  · exact List.mem_of_mem_take (List.mem_of_mem_drop hx)
  · have := of_decide_eq_false h; show code.length ≤ 2000; omega
def add1 (l : List Int) (i : Nat) (n : Int) : List Int := l.set i (w64 (l.getD i 0 + n))
def roughAdd (rs : List (List Int)) (t n : Int) : List (List Int) × Bool :=
  cond (roughB rs && (thingB t && decide (0 ≤ n ∧ n ≤ w64 (2000 - isum (rs.getD 0 []))))) ([add1 (rs.getD 0 []) (pl 0 t) n, add1 (rs.getD 1 []) (pl 1 t) n, add1 (rs.getD 2 []) (pl 2 t) n], true) ([], false)
theorem copy_eq (f : Nat) (a b c : List Int) (ha : a.length = 8) (hb : b.length = 8) (hc : c.length = 8) : zcs f (([a, b, c], ()), ()) = some (([a, b, c], ()), ()) := by
  show zbL f a b c = _
  unfold zbL
  simp only [ha, hb, hc, LIM, List.nil_append]
  rfl
theorem zzY (f : Nat) (rs : List (List Int)) (t n : Int) (hf : 8 < f) (hr : ∀ r ∈ rs, r.length < f ∧ r.length < 4294967296) : zhb f ((rs, ()), (t, ()), (n, ()), ()) = some (((roughAdd rs t n).1, ()), ((roughAdd rs t n).2, ()), ()) := by
  show zjK f rs t n = _
  unfold zjK roughAdd
  simp only [zlN f rs hf hr, zcc, Option.bind_some]
  cases h : roughB rs
  · rfl
  cases ht : thingB t
  · rfl
  obtain ⟨a, b, c, rfl, ha, hb, hc, -, -⟩ := zjo h
  have l0 := row_len ha
  have l1 := row_len hb
  have l2 := row_len hc
  have i0 := isum_eq f a (by omega) (by omega)
  have g0 : decide ((0 : Int) < zz ([a, b, c] : List (List Int)).length) = true := rfl
  have g1 : ([a, b, c] : List (List Int)).getD (Int.toNat 0) [] = a := rfl
  simp only [Bool.not_true, cond_false, g0, cond_true, g1, i0, in_eq, Option.bind_some, List.getD_cons_zero, Bool.true_and]
  by_cases cn : 0 ≤ n ∧ n ≤ w64 (2000 - isum a)
  · have p0 := zlO f 0 t (by omega) ht
    have p1 := zlO f 1 t (by omega) ht
    have p2 := zlO f 2 t (by omega) ht
    rw [show ((0 : Nat) : Int) = 0 from rfl] at p0
    rw [show ((1 : Nat) : Int) = 1 from rfl] at p1
    rw [show ((2 : Nat) : Int) = 2 from rfl] at p2
    have q0 := pl_lt 0 t
    have q1 := pl_lt 1 t
    have q2 := pl_lt 2 t
    have d1 : ([a, b, c] : List (List Int)).getD 1 [] = b := rfl
    have d2 : ([a, b, c] : List (List Int)).getD 2 [] = c := rfl
    have z0 : (pl 0 t : Int) < 8 := by omega
    have z1 : (pl 1 t : Int) < 8 := by omega
    have z2 : (pl 2 t : Int) < 8 := by omega
    simp only [cn, and_self, decide_true, Bool.not_true, cond_false, copy_eq f a b c l0 l1 l2, p0, p1, p2, Option.bind_some, List.getD_cons_zero, d1, d2, zz_eq, l0, l1, l2, le_cast, show ((8 : Nat) : Int) = 8 from rfl, z0, z1, z2, q0, q1, q2, Int.toNat_natCast, cond_true]
    rfl
  · simp only [cn, decide_false, Bool.not_false, cond_true, cond_false]
def putM (m : Int) : List Int → Bool → List Int
  | [], done => cond done [] [m]
  | x :: r, done => cond (!done && decide (x ≥ m)) (m :: cond (x != m) (x :: putM m r true) (putM m r true)) (cond (x != m) (x :: putM m r done) (putM m r done))
def few6 (l : List Int) (m : Int) : List Int := (putM m l false).take 6
theorem zzZ {l : List Int} : List.take (Int.toNat (if (6 : Int) < zz l.length then (6 : Int) else zz l.length) - 0) (List.drop 0 l) = l.take 6 := by
  rw [List.drop_zero, Nat.sub_zero]
  split
  · rfl
  · rename_i h
    rw [zz_eq] at h
    rw [zz_eq, Int.toNat_natCast, List.take_of_length_le (Nat.le_refl _), List.take_of_length_le (by omega)]
theorem min_nn {n : Nat} : (0 : Int) ≤ if (6 : Int) < zz n then (6 : Int) else zz n := by
  have := zz_eq n
  split <;> omega
theorem min_le {n : Nat} : (if (6 : Int) < zz n then (6 : Int) else zz n) ≤ zz n := by split <;> omega
theorem zq5 (f : Nat) (l : List Int) (m : Int) (hl : l.length < 100000000) : ∀ (d i : Nat) (done : Bool) (out : List Int) (fuel : Nat), i + d = l.length → out.length ≤ 2 * i → d < fuel →
    iter (zeG f) fuel ((i : Int), l, done, m, out) = some (((out ++ putM m (l.drop i) done).take 6, ()), ())
  | 0, i, done, out, fuel + 1, hi, ho, hf => by
    rw [iter]
    show zeF f _ _ = _
    unfold zeF
    obtain rfl : i = l.length := by omega
    have h1 : out.length + 1 < LIM := by simp only [LIM]; omega
    simp only [zzZ, min_nn, min_le, h1, decide_true, cond_true]
    simp only [zz_eq, zh, decide_false, cond_false, List.drop_eq_nil_of_le (Nat.le_refl _)]
    cases done
    · rfl
    · simp only [putM, cond_true, Bool.not_true, cond_false, List.append_nil]
  | d + 1, i, done, out, fuel + 1, hi, ho, hf => by
    rw [iter]
    show zeF f _ _ = _
    unfold zeF
    have hlt : i < l.length := by omega
    have ih : ∀ done (out : List Int), out.length ≤ 2 * (i + 1) → iter (zeG f) fuel (((i + 1 : Nat) : Int), l, done, m, out) = some (((out ++ putM m (l.drop (i + 1)) done).take 6, ()), ()) := fun done out h =>
      zq5 f l m hl d (i + 1) done out fuel (by omega) h (by omega)
    have h1 : out.length + 1 < LIM := by simp only [LIM]; omega
    have h2 : out.length + 1 + 1 < LIM := by simp only [LIM]; omega
    simp only [zz_eq, lt_cast hlt, le_cast, decide_true, cond_true, Int.toNat_natCast, w64_up (show i < 4294967296 by omega), h1, List.length_append, List.length_singleton, h2]
    rw [zbJ 0 hlt]
    obtain ⟨x, hx⟩ : ∃ x : Int, l.getD i 0 = x := ⟨_, rfl⟩
    simp only [hx]
    have e1 := ih true (out ++ [m] ++ [x]) (by simp; omega)
    have e2 := ih true (out ++ [m]) (by simp; omega)
    have e3 := ih done (out ++ [x]) (by simp; omega)
    have e4 := ih done out (by omega)
    simp only [e1, e2, e3, e4]
    simp only [putM, List.append_assoc, List.singleton_append, List.cons_append, List.nil_append]
    cases done
    · by_cases c : x ≥ m
      · simp only [c, decide_true, Bool.not_false, Bool.true_and, cond_true]
        cases (x != m) <;> rfl
      · simp only [c, decide_false, Bool.not_false, Bool.true_and, cond_true, cond_false]
        cases (x != m) <;> rfl
    · simp only [Bool.not_true, Bool.false_and, cond_false]
      cases (x != m) <;> rfl
theorem zz0 (f : Nat) (l : List Int) (m : Int) (hl : l.length < 100000000) (hf : l.length < f) : zhd f ((l, ()), (m, ()), ()) = some ((few6 l m, ()), ()) := by
  show iter (zeG f) f ((0 : Int), l, false, m, []) = _
  exact (zq5 f l m hl l.length 0 false [] f (by omega) (by simp) hf).trans rfl
def fewAdd (ms : List Int) (t : Int) : List Int × Bool := cond (fewB ms && thingB t) (few6 ms (mark t), true) ([], false)
theorem zz1 (f : Nat) (l : List Int) (t : Int) (hl : l.length < 100000000) (hf : l.length < f) : zhf f ((l, ()), (t, ()), ()) = some (((fewAdd l t).1, ()), ((fewAdd l t).2, ()), ()) := by
  show zjP f l t = _
  unfold zjP fewAdd
  simp only [zqZ f l (by omega) hf, zcc, zzP, zz0 f l _ hl hf, Option.bind_some]
  cases fewB l <;> cases thingB t <;> rfl
theorem zz2 (l : List Int) (m : Int) : (few6 l m).length ≤ 6 := by unfold few6; rw [List.length_take]; omega
def putP (t n : Int) : List Knot → Bool → List Knot
  | [], done => cond done [] [(t, n, ())]
  | x :: r, done => cond (!done && decide (x.1 ≥ t)) (cond (x.1 == t) ((t, w64 (n + x.2.1), ()) :: putP t n r true) ((t, n, ()) :: (x.1, x.2.1, ()) :: putP t n r true)) ((x.1, x.2.1, ()) :: putP t n r done)
theorem zgN (t n : Int) : ∀ (l : List Knot) (done : Bool), (putP t n l done).length ≤ l.length + 1
  | [], done => by cases done <;> simp [putP]
  | x :: r, done => by
    have h1 := zgN t n r true
    have h2 := zgN t n r done
    have h3 : ∀ (l : List Knot), (putP t n l true).length = l.length := by
      intro l
      induction l with
      | nil => rfl
      | cons x l ih => simp [putP, ih]
    unfold putP
    cases (!done && decide (x.1 ≥ t)) <;> cases (x.1 == t) <;> simp only [cond_true, cond_false, List.length_cons, h3] <;> omega
theorem zq6 (f : Nat) (l : List Knot) (t n : Int) (hl : l.length < 100000000) : ∀ (d i : Nat) (done : Bool) (out : List Knot) (fuel : Nat), i + d = l.length → out.length ≤ 2 * i → d < fuel →
    iter (zeR f) fuel ((i : Int), l, done, t, n, out) = some ((out ++ putP t n (l.drop i) done, ()), ())
  | 0, i, done, out, fuel + 1, hi, ho, hf => by
    rw [iter]
    show zeQ f _ _ = _
    unfold zeQ
    obtain rfl : i = l.length := by omega
    have h1 : out.length + 1 < LIM := by simp only [LIM]; omega
    simp only [h1, decide_true, cond_true]
    simp only [zz_eq, zh, decide_false, cond_false, List.drop_eq_nil_of_le (Nat.le_refl _)]
    cases done
    · rfl
    · simp only [putP, cond_true, Bool.not_true, cond_false, List.append_nil]
  | d + 1, i, done, out, fuel + 1, hi, ho, hf => by
    rw [iter]
    show zeQ f _ _ = _
    unfold zeQ
    have hlt : i < l.length := by omega
    have ih : ∀ done (out : List Knot), out.length ≤ 2 * (i + 1) → iter (zeR f) fuel (((i + 1 : Nat) : Int), l, done, t, n, out) = some ((out ++ putP t n (l.drop (i + 1)) done, ()), ()) := fun done out h =>
      zq6 f l t n hl d (i + 1) done out fuel (by omega) h (by omega)
    have h1 : out.length + 1 < LIM := by simp only [LIM]; omega
    have h2 : out.length + 1 + 1 < LIM := by simp only [LIM]; omega
    simp only [zz_eq, lt_cast hlt, le_cast, decide_true, cond_true, Int.toNat_natCast, w64_up (show i < 4294967296 by omega), h1, List.length_append, List.length_singleton, h2]
    rw [zbJ (0, 0, ()) hlt]
    obtain ⟨x, hx⟩ : ∃ x : Knot, l.getD i (0, 0, ()) = x := ⟨_, rfl⟩
    simp only [hx]
    have e1 := ih true (out ++ [(t, n, ())] ++ [(x.1, x.2.1, ())]) (by simp; omega)
    have e2 := ih true (out ++ [(t, w64 (n + x.2.1), ())]) (by simp; omega)
    have e3 := ih done (out ++ [(x.1, x.2.1, ())]) (by simp; omega)
    simp only [e1, e2, e3]
    simp only [putP, List.append_assoc, List.singleton_append, List.cons_append, List.nil_append]
    cases done
    · by_cases c : x.1 ≥ t
      · simp only [c, decide_true, Bool.not_false, Bool.true_and, cond_true]
        cases (x.1 == t) <;> rfl
      · simp only [c, decide_false, Bool.not_false, Bool.true_and, cond_true, cond_false]
    · simp only [Bool.not_true, Bool.false_and, cond_false]
theorem zz3 (f : Nat) (l : List Knot) (t n : Int) (hl : l.length < 100000000) (hf : l.length < f) : zhm f ((l, ()), (t, n, ()), ()) = some ((putP t n l false, ()), ()) := by
  show iter (zeR f) f ((0 : Int), l, false, t, n, []) = _
  exact (zq6 f l t n hl l.length 0 false [] f (by omega) (by simp) hf).trans rfl
def cntGe (m : Int) (l : List Knot) : Int := l.foldl (fun n x => cond (decide (x.2.1 ≥ m)) (w64 (n + 1)) n) 0
def over3 (l : List Knot) : Int := l.foldl (fun b x => cond (decide (cntGe x.2.1 l > 4)) (if x.2.1 > b then x.2.1 else b) b) 0
theorem zz4 (f : Nat) (l : List Knot) (hl : l.length < 100000000) (hf : l.length < f) : zhh f ((l, ()), ()) = some ((over3 l, ()), ()) := by
  show iter (zhg f) f ((0 : Int), l, (0 : Int)) = _
  refine (zaH (st := zhg f) (enc := fun i (b : Int) => ((i : Int), l, b)) (fun (x : Knot) k b => k (cond (decide (cntGe x.2.1 l > 4)) (if x.2.1 > b then x.2.1 else b) b)) (fun b => some ((b, ()), ())) l (0, 0, ()) ?_ ?_ f 0 hf).trans (fold_go (fun b x => cond (decide (cntGe x.2.1 l > 4)) (if x.2.1 > b then x.2.1 else b) b) (fun _ _ _ => rfl) l 0)
  · intro i b g hi
    show zcx f _ g _ = _
    unfold zcx
    simp only [zz_eq, lt_cast hi, decide_true, cond_true]
    refine (zaH (st := zjR f g) (enc := fun k (n : Int) => ((k : Int), l, (i : Int), n, b)) (fun (y : Knot) k n => k (cond (decide (y.2.1 ≥ (l.getD i (0, 0, ())).2.1)) (w64 (n + 1)) n))
      (fun n => g (((i + 1 : Nat) : Int), l, cond (decide (n > 4)) (if (l.getD i (0, 0, ())).2.1 > b then (l.getD i (0, 0, ())).2.1 else b) b)) l (0, 0, ()) ?_ ?_ f 0 hf).trans (fold_go (fun n y => cond (decide (y.2.1 ≥ (l.getD i (0, 0, ())).2.1)) (w64 (n + 1)) n) (fun _ _ _ => rfl) l 0)
    · intro k n g2 hk
      show zcw f g g2 _ = _
      unfold zcw
      simp only [zz_eq, lt_cast hi, lt_cast hk, le_cast, decide_true, cond_true, Int.toNat_natCast, w64_up (show k < 4294967296 by omega)]
      cases decide ((l.getD k (0, 0, ())).2.1 ≥ (l.getD i (0, 0, ())).2.1) <;> rfl
    · intro n g2
      show zcw f g g2 _ = _
      unfold zcw
      simp only [zz_eq, zh, lt_cast hi, le_cast, decide_true, decide_false, cond_true, cond_false, Int.toNat_natCast, w64_up (show i < 4294967296 by omega)]
      cases decide (n > 4) <;> rfl
  · intro b g
    show zcx f _ g _ = _
    unfold zcx
    simp only [zz_eq, zh, decide_false, cond_false]
def less3 (m : Int) : List Knot → List Knot
  | [] => []
  | x :: r => cond (decide (x.2.1 > m)) ((x.1, w64 (x.2.1 - m), ()) :: less3 m r) (less3 m r)
theorem zq7 (m : Int) : ∀ (l : List Knot), (less3 m l).length ≤ l.length
  | [] => Nat.le_refl _
  | x :: r => by
    have := zq7 m r
    unfold less3
    cases decide (x.2.1 > m) <;> simp only [cond_true, cond_false, List.length_cons] <;> omega
theorem zq8 (f : Nat) (l : List Knot) (m : Int) (hl : l.length < 100000000) : ∀ (d i : Nat) (out : List Knot) (fuel : Nat), i + d = l.length → out.length ≤ i → d < fuel →
    iter (zeM f) fuel ((i : Int), l, m, out) = some ((out ++ less3 m (l.drop i), ()), ())
  | 0, i, out, fuel + 1, hi, ho, hf => by
    rw [iter]
    show zeL f _ _ = _
    unfold zeL
    obtain rfl : i = l.length := by omega
    simp only [zz_eq, zh, decide_false, cond_false, List.drop_eq_nil_of_le (Nat.le_refl _), less3, List.append_nil]
  | d + 1, i, out, fuel + 1, hi, ho, hf => by
    rw [iter]
    show zeL f _ _ = _
    unfold zeL
    have hlt : i < l.length := by omega
    have ih : ∀ (out : List Knot), out.length ≤ i + 1 → iter (zeM f) fuel (((i + 1 : Nat) : Int), l, m, out) = some ((out ++ less3 m (l.drop (i + 1)), ()), ()) := fun out h =>
      zq8 f l m hl d (i + 1) out fuel (by omega) h (by omega)
    have h1 : out.length + 1 < LIM := by simp only [LIM]; omega
    simp only [zz_eq, lt_cast hlt, le_cast, decide_true, cond_true, Int.toNat_natCast, w64_up (show i < 4294967296 by omega), h1]
    rw [zbJ (0, 0, ()) hlt]
    obtain ⟨x, hx⟩ : ∃ x : Knot, l.getD i (0, 0, ()) = x := ⟨_, rfl⟩
    simp only [hx]
    have e1 := ih (out ++ [(x.1, w64 (x.2.1 - m), ())]) (by simp; omega)
    have e2 := ih out (by omega)
    simp only [e1, e2]
    simp only [less3, List.append_assoc, List.singleton_append, List.cons_append, List.nil_append]
    cases decide (x.2.1 > m) <;> rfl
theorem zz5 (f : Nat) (l : List Knot) (m : Int) (hl : l.length < 100000000) (hf : l.length < f) : zhj f ((l, ()), (m, ()), ()) = some ((less3 m l, ()), ()) := by
  show iter (zeM f) f ((0 : Int), l, m, []) = _
  exact (zq8 f l m hl l.length 0 [] f (by omega) (by simp) hf).trans rfl
abbrev TopD := List Knot × Int × Int × Unit
def cut3 (l : List Knot) (lost all : Int) : TopD := (less3 (over3 l) l, w64 (lost + over3 l), all, ())
theorem zz6 (f : Nat) (l : List Knot) (lost all : Int) (hl : l.length < 100000000) (hf : l.length < f) : zhk f ((l, lost, all, ()), ()) = some (cut3 l lost all, ()) := by
  show zjU f l lost all = _
  unfold zjU
  simp only [zz4 f l hl hf, zz5 f l _ hl hf, Option.bind_some]
  rfl
def noTop : TopD := ([], 0, 0, ())
def topAdd (ps : List Knot) (lost all t : Int) : TopD × Bool := cond (topB ps lost all && (thingB t && decide (all < 2000))) (cut3 (putP t 1 ps false) lost (w64 (all + 1)), true) (noTop, false)
theorem zz7 (f : Nat) (ps : List Knot) (lost all t : Int) (hl : ps.length < 10000000) (hf : ps.length + 1 < f) : zhn f ((ps, lost, all, ()), (t, ()), ()) = some ((topAdd ps lost all t).1, ((topAdd ps lost all t).2, ()), ()) := by
  show zjX f ps lost all t = _
  have h1 := zgN t 1 ps false
  unfold zjX topAdd
  simp only [zq1 f ps lost all (by omega) (by omega), zcc, Option.bind_some, zz3 f ps t 1 (by omega) (by omega), zz6 f (putP t 1 ps false) lost _ (by omega) (by omega)]
  have : decide (all ≥ 2000) = !decide (all < 2000) := by
    by_cases h : all < 2000
    · have : ¬ all ≥ 2000 := by omega
      simp [h, this]
    · have : all ≥ 2000 := by omega
      simp [h, this]
  rw [this]
  cases topB ps lost all <;> cases thingB t <;> cases decide (all < 2000) <;> rfl
theorem four {ps : List Knot} {l a : Int} (h : topB ps l a = true) : ps.length ≤ 4 ∧ 0 ≤ l ∧ l ≤ 2000 ∧ 0 ≤ a ∧ a ≤ 2000 := by
  unfold topB at h
  simp only [Bool.and_eq_true, decide_eq_true_eq] at h
  exact h.1
abbrev SumD := List (List Int) × List Int × List Knot × Int × Int × List Knot × Int × Unit
def noSum : SumD := ([], [], [], 0, 0, [], 0, ())
def sumNew : SumD := ([List.replicate 8 0, List.replicate 8 0, List.replicate 8 0], [], [], 0, 0, [], 0, ())
def sumBD (s : SumD) : Bool := sumB s.1 s.2.1 s.2.2.1 s.2.2.2.1 s.2.2.2.2.1 s.2.2.2.2.2.1 s.2.2.2.2.2.2.1
def rankAdd (ks : List Knot) (all t : Int) : (List Knot × Int × Unit) × Bool := cond (addB ks all t) ((addS ks all t, w64 (all + 1), ()), true) (([], 0, ()), false)
theorem zz8 (f : Nat) (ks : List Knot) (all t : Int) (hl : ks.length < 4294967296) (hf : ks.length < f) (hf2 : 128 < f) :
    zcD f ((ks, all, ()), (t, ()), ()) = some ((rankAdd ks all t).1, ((rankAdd ks all t).2, ()), ()) := by
  rw [zzT f ks all t hl hf hf2]; unfold rankAdd
  cases addB ks all t <;> rfl
structure SmallS (s : SumD) (n : Nat) : Prop where
  rows : s.1.length ≤ n
  row : ∀ r ∈ s.1, r.length ≤ n
  marks : s.2.1.length ≤ n
  pairs : s.2.2.1.length ≤ n
  knots : s.2.2.2.2.2.1.length ≤ n
theorem zz9 (f : Nat) (s : SumD) {n : Nat} (hs : SmallS s n) (hn : n < 4294967296) (hf : 8 < f) (hnf : n < f) : zeu f (s, ()) = some ((sumBD s, ()), ()) :=
  zzO f s.1 s.2.1 s.2.2.1 s.2.2.2.1 s.2.2.2.2.1 s.2.2.2.2.2.1 s.2.2.2.2.2.2.1 hf (fun r hr => by have := hs.row r hr; omega) (by have := hs.marks; omega) (by have := hs.pairs; omega) (by have := hs.knots; omega)
def sumAdd (s : SumD) (t : Int) : SumD × Bool := cond (sumBD s && (thingB t && decide (s.2.2.2.2.1 < 2000)))
  (((roughAdd s.1 t 1).1, (fewAdd s.2.1 t).1, (topAdd s.2.2.1 s.2.2.2.1 s.2.2.2.2.1 t).1.1, (topAdd s.2.2.1 s.2.2.2.1 s.2.2.2.2.1 t).1.2.1, (topAdd s.2.2.1 s.2.2.2.1 s.2.2.2.2.1 t).1.2.2.1, (rankAdd s.2.2.2.2.2.1 s.2.2.2.2.2.2.1 t).1.1, (rankAdd s.2.2.2.2.2.1 s.2.2.2.2.2.2.1 t).1.2.1, ()), true) (noSum, false)
theorem zq9 (f : Nat) (s : SumD) (t : Int) {n : Nat} (hs : SmallS s n) (hn : n < 1000000) (hnf : n + 1 < f) (hf : 128 < f) : zaL f (s, (t, ()), ()) = some ((sumAdd s t).1, ((sumAdd s t).2, ()), ()) := by
  obtain ⟨rs, ms, ps, lost, tall, ks, rall, ⟨⟩⟩ := s
  have e0 := zz9 f (rs, ms, ps, lost, tall, ks, rall, ()) hs (by omega) (by omega) (by omega)
  have h1 := hs.rows; have h2 := hs.row; have h3 := hs.marks; have h4 := hs.pairs; have h5 := hs.knots
  simp only at h1 h2 h3 h4 h5
  show zj6 f rs ms ps lost tall ks rall t = _
  unfold zj6 sumAdd
  simp only [e0, zcc, Option.bind_some, zzY f rs t 1 (by omega) (fun r hr => by have := h2 r hr; omega), zz1 f ms t (by omega) (by omega), zz7 f ps lost tall t (by omega) (by omega), zz8 f ks rall t (by omega) (by omega) (by omega)]
  have : decide (tall ≥ 2000) = !decide (tall < 2000) := by
    by_cases h : tall < 2000
    · have : ¬ tall ≥ 2000 := by omega
      simp [h, this]
    · have : tall ≥ 2000 := by omega
      simp [h, this]
  rw [this]
  cases sumBD (rs, ms, ps, lost, tall, ks, rall, ()) <;> cases thingB t <;> cases decide (tall < 2000) <;> rfl
theorem zAa {rs : List (List Int)} {t n : Int} : (roughAdd rs t n).1.length ≤ 8 ∧ ∀ r ∈ (roughAdd rs t n).1, r.length ≤ 8 := by
  unfold roughAdd
  cases h : roughB rs
  · simp
  obtain ⟨a, b, c, rfl, ha, hb, hc, -, -⟩ := zjo h
  have l0 := row_len ha
  have l1 := row_len hb
  have l2 := row_len hc
  generalize (thingB t && _) = q
  cases q
  · simp
  · simp only [Bool.and_self, cond_true]
    refine ⟨by simp, fun r hr => ?_⟩
    simp only [List.mem_cons, List.not_mem_nil, or_false] at hr
    rcases hr with rfl | rfl | rfl <;> simp [add1, l0, l1, l2]
theorem zAb {ms : List Int} {t : Int} : (fewAdd ms t).1.length ≤ 6 := by
  unfold fewAdd
  cases (fewB ms && thingB t)
  · exact Nat.zero_le _
  · exact zz2 _ _
theorem zAc {ps : List Knot} {l a t : Int} : (topAdd ps l a t).1.1.length ≤ 5 := by
  unfold topAdd
  cases h : topB ps l a
  · exact Nat.zero_le _
  have := four h
  have h1 := zgN t 1 ps false
  cases (thingB t && decide (a < 2000))
  · exact Nat.zero_le _
  · have := zq7 (over3 (putP t 1 ps false)) (putP t 1 ps false)
    show (less3 (over3 (putP t 1 ps false)) (putP t 1 ps false)).length ≤ 5
    omega
theorem zAd {ks : List Knot} {a t : Int} : (rankAdd ks a t).1.1.length ≤ 128 := by
  unfold rankAdd
  cases addB ks a t
  · exact Nat.zero_le _
  · have := zzW (ks := ks) (all := a) (t := t)
    simp only [cond_true]
    omega
theorem zra : SmallS sumNew 128 := ⟨by decide, by decide, by decide, by decide, by decide⟩
theorem zrb : SmallS noSum 128 := ⟨by decide, by decide, by decide, by decide, by decide⟩
theorem zAe {rs : List (List Int)} {ms : List Int} {ps ks : List Knot} {l a r : Int} {n : Nat} (h1 : rs.length ≤ n) (h2 : ∀ r ∈ rs, r.length ≤ n) (h3 : ms.length ≤ n) (h4 : ps.length ≤ n) (h5 : ks.length ≤ n) : SmallS (rs, ms, ps, l, a, ks, r, ()) n := ⟨h1, h2, h3, h4, h5⟩
theorem zrc (s : SumD) (t : Int) : SmallS (sumAdd s t).1 128 := by
  unfold sumAdd
  cases (sumBD s && (thingB t && decide (s.2.2.2.2.1 < 2000)))
  · exact zrb
  · have r := zAa (rs := s.1) (t := t) (n := 1)
    have m := zAb (ms := s.2.1) (t := t)
    have p := zAc (ps := s.2.2.1) (l := s.2.2.2.1) (a := s.2.2.2.2.1) (t := t)
    have k := zAd (ks := s.2.2.2.2.2.1) (a := s.2.2.2.2.2.2.1) (t := t)
    exact zAe (Nat.le_trans r.1 (by omega)) (fun q hq => Nat.le_trans (r.2 q hq) (by omega)) (Nat.le_trans m (by omega)) (Nat.le_trans p (by omega)) k
def sumOfGo : List Int → SumD → SumD × Bool
  | [], s => (s, true)
  | t :: r, s => cond (sumAdd s t).2 (sumOfGo r (sumAdd s t).1) (noSum, false)
def sumOf (l : List Int) : SumD × Bool := sumOfGo l sumNew
theorem zrd : ∀ (l : List Int) (s : SumD), SmallS s 128 → SmallS (sumOfGo l s).1 128
  | [], s, h => h
  | t :: r, s, h => by
    unfold sumOfGo
    cases (sumAdd s t).2
    · exact zrb
    · exact zrd r _ (zrc s t)
theorem zlT (l : List Int) : SmallS (sumOf l).1 128 := zrd l _ zra
theorem zAf (f : Nat) : zcr f () = some (sumNew, ()) := rfl
theorem zAg (f : Nat) (l : List Int) (hl : l.length < 1000000000) (hfl : l.length < f) (hf : 200 < f) : zhy f ((l, ()), ()) = some ((sumOf l).1, ((sumOf l).2, ()), ()) := by
  show zhx f (iter (zhw f) f) l = _
  unfold zhx
  simp only [zAf, Option.bind_some]
  refine (zaH (st := zhw f) (enc := fun i (s : SumD) => ((i : Int), l, s.1, s.2.1, s.2.2.1, s.2.2.2.1, s.2.2.2.2.1, s.2.2.2.2.2.1, s.2.2.2.2.2.2.1, (0 : Int), (0 : Int), (0 : Int))) (fun (x : Int) c (s : SumD) => (zaL f (s, (x, ()), ())).bind fun y => cond (!y.2.1.1) (some (noSum, (false, ()), ())) (c y.1))
      (fun s => some (s, (true, ()), ())) l 0 ?_ ?_ f sumNew hfl).trans ?_
  · intro i s g hi
    show ze9 f g _ = _
    unfold ze9
    simp only [zz_eq, lt_cast hi, le_cast, decide_true, cond_true, Int.toNat_natCast, w64_up (show i < 4294967296 by omega)]
    rfl
  · intro s g
    show ze9 f g _ = _
    unfold ze9
    simp only [zz_eq, zh, decide_false, cond_false]
  · have : ∀ (l : List Int) (s : SumD), SmallS s 128 → goL (R := SumD × ((Bool × Unit) × Unit)) (fun (x : Int) c (s : SumD) => (zaL f (s, (x, ()), ())).bind fun y => cond (!y.2.1.1) (some (noSum, (false, ()), ())) (c y.1))
        (fun s => some (s, (true, ()), ())) l s = some ((sumOfGo l s).1, ((sumOfGo l s).2, ()), ()) := by
      intro l
      induction l with
      | nil => intro s _; rfl
      | cons x l ih =>
        intro s hs
        show (zaL f (s, (x, ()), ())).bind _ = _
        rw [zq9 f s x hs (by omega) (by omega) (by omega), Option.bind_some]
        unfold sumOfGo
        cases (sumAdd s x).2
        · rfl
        · exact ih _ (zrc s x)
    exact this l sumNew zra
theorem SmallS.mono {s : SumD} {n m : Nat} (h : SmallS s n) (hm : n ≤ m) : SmallS s m :=
  ⟨Nat.le_trans h.rows hm, fun r hr => Nat.le_trans (h.row r hr) hm, Nat.le_trans h.marks hm, Nat.le_trans h.pairs hm, Nat.le_trans h.knots hm⟩
theorem SmallS.all {s : SumD} {n : Nat} (h : SmallS s n) (a : Int) : SmallS (s.1, s.2.1, s.2.2.1, s.2.2.2.1, a, s.2.2.2.2.2.1, s.2.2.2.2.2.2.1, ()) n := ⟨h.rows, h.row, h.marks, h.pairs, h.knots⟩
theorem SmallS.rough {s u : SumD} {n : Nat} (h : SmallS s n) (hu : SmallS u n) : SmallS (u.1, s.2.1, s.2.2.1, s.2.2.2.1, s.2.2.2.2.1, s.2.2.2.2.2.1, s.2.2.2.2.2.2.1, ()) n := ⟨hu.rows, hu.row, h.marks, h.pairs, h.knots⟩
theorem zl {f : Nat} {b : List Int} {p q : Int} (hb : Bytes b) (h0 : 0 ≤ p) (s : List Int × Int × Unit) (n : Int) (hs : Rd b p q s) (hq : q ≤ 900000000) (hn : 1 ≤ n) :
    Ret (zb f ((s.1, s.2.1, ()), (n, ()), ())) fun t => Rd b p (q + 1) t.1 ∧ 0 ≤ t.2.1.1 ∧ t.2.1.1 < n := by
  rw [hs.1]
  exact (pick_ok f b s.2.1 n hb (by have := hs.2; omega) (by have := hs.2; omega) hn).mono fun t ht => ⟨hs.trans ht.1, ht.2⟩
theorem zAh : sumBD sumNew = true := by decide +kernel
def headM (a b : List Int) : Int := match a, b with
  | [], [] => 64
  | x :: _, [] => x
  | [], y :: _ => y
  | x :: _, y :: _ => if y < x then y else x
def cutM (m : Int) (a : List Int) : List Int := match a with
  | [] => []
  | x :: r => cond (x == m) r (x :: r)
def mergeM : Nat → List Int → List Int → List Int
  | 0, _, _ => []
  | n + 1, a, b => cond (a.isEmpty && b.isEmpty) [] (headM a b :: mergeM n (cutM (headM a b) a) (cutM (headM a b) b))
def Sl (n₀ : Nat) (W : World) (v : Value) (xs : List Int) : Prop := ∃ (p : Option Addr) (cap : Nat), v = .slice p xs.length cap ∧ xs.length ≤ cap ∧
  (xs = [] ∨ ∃ b o, p = some ⟨b, o, none⟩ ∧ b < n₀ ∧ ∀ j, j < xs.length → W.cell? ⟨b, o + j, none⟩ = some (.int .i64 (xs.getD j 0)))
theorem zlU : ∀ {f : Nat}, mergeM f [] [] = []
  | 0 => rfl
  | f + 1 => rfl
theorem Sl.zero {n₀ : Nat} {W : World} {p : Option Addr} {xs : List Int} (h : xs.length ≤ 0) : Sl n₀ W (.slice p xs.length 0) xs :=
  ⟨p, 0, rfl, h, .inl (List.length_eq_zero_iff.1 (by omega))⟩
theorem Sl.slice {n₀ : Nat} {W : World} {v : Value} {xs : List Int} (h : Sl n₀ W v xs) : ∃ p c, v = .slice p xs.length c := by
  obtain ⟨p, c, e, _⟩ := h; exact ⟨p, c, e⟩
theorem Sl.cons {n₀ : Nat} {W : World} {v : Value} {x : Int} {xs : List Int} (h : Sl n₀ W v (x :: xs)) : ∃ b o c, v = .slice (some ⟨b, o, none⟩) (xs.length + 1) c ∧ xs.length + 1 ≤ c ∧ b < n₀ ∧ W.cell? ⟨b, o, none⟩ = some (.int .i64 x) ∧
    Sl n₀ W (.slice (some ⟨b, o + 1, none⟩) xs.length (c - 1)) xs := by
  obtain ⟨p, c, e, hc, h⟩ := h
  rcases h with h | ⟨b, o, rfl, hb, hx⟩
  · cases h
  · simp only [List.length_cons] at hc hx
    refine ⟨b, o, c, e, hc, hb, hx 0 (by omega), _, _, rfl, by omega, ?_⟩
    cases xs with
    | nil => exact .inl rfl
    | cons y ys => exact .inr ⟨b, o + 1, rfl, hb, fun j hj => by
        have := hx (j + 1) (by omega)
        rw [show o + (j + 1) = o + 1 + j from by omega, List.getD_cons_succ] at this
        exact this⟩
def leastL (a b : List Int) : List Int := (mergeM 12 a b).take 6
theorem Sl.form {n₀ : Nat} {W : World} {v : Value} {xs : List Int} (h : Sl n₀ W v xs) : ∃ p c, v = .slice p xs.length c := h.slice
def spanG : Nat → Int → Int → Int × Int
  | 0, l, h => (l - 64, h - 64)
  | n + 1, l, h => if l < 64 then spanG n (2 * l) (2 * h + 1) else (l - 64, h - 64)
def span (a : Int) : Int × Int := spanG 63 a a
def wsum (p : Nat → Bool) : Nat → List Int → Int
  | _, [] => 0
  | i, x :: r => (if p i = true then x else 0) + wsum p (i + 1) r
def ksum (p : Nat → Bool) : List Knot → Int
  | [] => 0
  | k :: r => (if p k.1.toNat = true then k.2.1 else 0) + ksum p r
abbrev yes : Nat → Bool := fun _ => true
theorem zgO (p : Nat → Bool) (x : Int) : ∀ {l : List Int} {i j : Nat}, j < l.length → wsum p i (l.set j x) = wsum p i l + (if p (i + j) = true then x - l.getD j 0 else 0)
  | [], i, j, h => by simp at h
  | y :: l, i, 0, h => by
    simp only [List.set_cons_zero, wsum, Nat.add_zero, List.getD_cons_zero]
    split <;> omega
  | y :: l, i, j + 1, h => by
    simp only [List.set_cons_succ, wsum, List.getD_cons_succ]
    rw [zgO p x (by simpa using h), show i + 1 + j = i + (j + 1) from by omega]
    omega
theorem zcd {l : List Int} {i j : Nat} {x : Int} (h : i < l.length) : (l.set i x).getD j 0 = if i = j then x else l.getD j 0 := by
  simp only [List.getD_eq_getElem?_getD]
  by_cases e : i = j
  · subst e; rw [List.getElem?_set_self h, if_pos rfl]; rfl
  · rw [List.getElem?_set_ne e, if_neg e]
theorem zlV {p : Nat → Bool} : ∀ {l : List Int} {i : Nat}, (∀ j, 0 ≤ l.getD j 0) → 0 ≤ wsum p i l
  | [], i, h => Int.le_refl _
  | x :: l, i, h => by
    have h0 : 0 ≤ x := h 0
    have := zlV (p := p) (l := l) (i := i + 1) fun j => h (j + 1)
    simp only [wsum]; split <;> omega
theorem zjp : ∀ {l : List Int} {i j : Nat}, (∀ j, 0 ≤ l.getD j 0) → l.getD j 0 ≤ wsum yes i l
  | [], i, j, h => by simp [wsum]
  | x :: l, i, 0, h => by
    have := zlV (p := yes) (l := l) (i := i + 1) fun j => h (j + 1)
    simp only [wsum, List.getD_cons_zero, if_true]; omega
  | x :: l, i, j + 1, h => by
    have h0 : 0 ≤ x := h 0
    have := zjp (l := l) (i := i + 1) (j := j) fun j => h (j + 1)
    simp only [wsum, List.getD_cons_succ, if_true]; omega
theorem zre : ∀ {l : List Int} {i j k : Nat}, j < k → (∀ j, 0 ≤ l.getD j 0) → l.getD j 0 + l.getD k 0 ≤ wsum yes i l
  | [], i, j, k, hjk, h => by simp [wsum]
  | x :: l, i, 0, k + 1, hjk, h => by
    have := zjp (l := l) (i := i + 1) (j := k) fun j => h (j + 1)
    simp only [wsum, List.getD_cons_zero, List.getD_cons_succ, if_true]; omega
  | x :: l, i, j + 1, k + 1, hjk, h => by
    have h0 : 0 ≤ x := h 0
    have := zre (l := l) (i := i + 1) (j := j) (k := k) (by omega) fun j => h (j + 1)
    simp only [wsum, List.getD_cons_succ, if_true]; omega
theorem zrf : ∀ {l : List Int} {i j : Nat}, wsum (fun k => k == i + j) i l = l.getD j 0
  | [], i, j => by simp [wsum]
  | x :: l, i, 0 => by
    have : ∀ {l : List Int} {k : Nat}, i < k → wsum (fun m => m == i + 0) k l = 0 := by
      intro l
      induction l with
      | nil => intro k _; rfl
      | cons y l ih =>
        intro k hk
        have e : (k == i + 0) = false := by simp; omega
        show (if (k == i + 0) = true then y else 0) + wsum (fun m => m == i + 0) (k + 1) l = 0
        rw [e, ih (by omega)]; rfl
    simp only [wsum, List.getD_cons_zero]
    rw [this (by omega)]
    simp
  | x :: l, i, j + 1 => by
    simp only [wsum, List.getD_cons_succ]
    have e : ∀ k, (k == i + (j + 1)) = (k == i + 1 + j) := fun k => by rw [show i + (j + 1) = i + 1 + j from by omega]
    have : (i == i + (j + 1)) = false := by simp
    simp only [this]
    rw [show (fun k => k == i + (j + 1)) = fun k => k == i + 1 + j from funext e, zrf]
    simp
structure NumsP (a : List Int) (top : Int) : Prop where
  len : a.length = 128
  nn : ∀ j, 0 ≤ a.getD j 0
  top : wsum yes 0 a ≤ top
theorem zrg (p : Nat → Bool) : wsum p 0 zeros = 0 := by
  have : ∀ (n i : Nat), wsum p i (List.replicate n (0 : Int)) = 0 := by
    intro n
    induction n with
    | zero => intro i; rfl
    | succ n ih => intro i; simp [List.replicate_succ, wsum, ih]
  exact this 128 0
theorem zeros_p : NumsP zeros 0 where
  len := List.length_replicate ..
  nn j := by
    simp only [zeros, List.getD_eq_getElem?_getD, List.getElem?_replicate]
    split <;> simp
  top := by rw [zrg]; exact Int.le_refl _
theorem zlW : ∀ {ks : List Knot} {a : List Int} {top : Int}, GoodK ks → NumsP a top → 0 ≤ top → top + ksum yes ks ≤ 1000000000000 →
    NumsP (numsGo ks a) (top + ksum yes ks) ∧ ∀ p, wsum p 0 (numsGo ks a) = wsum p 0 a + ksum p ks
  | [], a, top, hg, ha, h0, ht => ⟨by simpa [numsGo, ksum] using ha, fun p => by simp [numsGo, ksum]⟩
  | k :: r, a, top, hg, ha, h0, ht => by
    have hk := hg k (by simp)
    have hkr : ∀ {r : List Knot}, GoodK r → 0 ≤ ksum yes r := by
      intro r
      induction r with
      | nil => intro _; exact Int.le_refl _
      | cons x r ih => intro hg; have := ih fun y hy => hg y (by simp [hy]); have := hg x (by simp); simp only [ksum, if_true]; omega
    have hr := hkr (r := r) fun y hy => hg y (by simp [hy])
    simp only [ksum, if_true] at ht
    have hle := zjp (l := a) (i := 0) (j := k.1.toNat) ha.nn
    have h1 := ha.nn k.1.toNat
    have h2 := ha.top
    have hlen := ha.len
    have e : w64 (a.getD k.1.toNat 0 + k.2.1) = a.getD k.1.toNat 0 + k.2.1 := by rw [w64_id] <;> omega
    have hs : ∀ p, wsum p 0 (a.set k.1.toNat (a.getD k.1.toNat 0 + k.2.1)) = wsum p 0 a + (if p k.1.toNat = true then k.2.1 else 0) := fun p => by
      rw [zgO p _ (by omega), Nat.zero_add]; split <;> omega
    have ha' : NumsP (a.set k.1.toNat (a.getD k.1.toNat 0 + k.2.1)) (top + k.2.1) := {
      len := by simpa using hlen
      nn := fun j => by
        rw [zcd (by omega)]
        split
        · omega
        · exact ha.nn j
      top := by rw [hs]; simp only [if_true]; omega }
    have ih := zlW (ks := r) (a := a.set k.1.toNat (a.getD k.1.toNat 0 + k.2.1)) (top := top + k.2.1) (fun y hy => hg y (by simp [hy])) ha' (by omega) (by omega)
    simp only [numsGo, ksum, e, if_true]
    refine ⟨?_, fun p => by rw [ih.2 p, hs p]; omega⟩
    rw [← Int.add_assoc]; exact ih.1
theorem sq1_sum {a : List Int} {top all : Int} {n : Nat} (ha : NumsP a top) (ht : top ≤ 1000000000000) (h1 : 1 ≤ n) (h2 : n ≤ 63) :
    NumsP (sq1 all n a) top ∧ (∃ l h : Int, 0 ≤ l ∧ 0 ≤ h ∧ ∀ p, wsum p 0 (sq1 all n a) = wsum p 0 a + (if p n = true then l + h else 0) - (if p (2 * n) = true then l else 0) - (if p (2 * n + 1) = true then h else 0)) ∧
      ((∀ j, 1 ≤ j → j < 64 → a.getD j 0 ≤ w64 (all.tdiv 8)) → 0 ≤ w64 (all.tdiv 8) → ∀ j, 1 ≤ j → j < 64 → (sq1 all n a).getD j 0 ≤ w64 (all.tdiv 8)) := by
  have hlen := ha.len
  have hl := ha.nn (2 * n)
  have hh := ha.nn (2 * n + 1)
  have hn := ha.nn n
  have htop := ha.top
  have b1 := zre (l := a) (i := 0) (j := 2 * n) (k := 2 * n + 1) (by omega) ha.nn
  have b2 := zjp (l := a) (i := 0) (j := n) ha.nn
  have e1 : w64 (a.getD (2 * n) 0 + a.getD (2 * n + 1) 0) = a.getD (2 * n) 0 + a.getD (2 * n + 1) 0 := by rw [w64_id] <;> omega
  have e2 : w64 (a.getD (2 * n) 0 + a.getD (2 * n + 1) 0 + a.getD n 0) = a.getD (2 * n) 0 + a.getD (2 * n + 1) 0 + a.getD n 0 := by rw [w64_id] <;> omega
  have e3 : w64 (a.getD n 0 + (a.getD (2 * n) 0 + a.getD (2 * n + 1) 0)) = a.getD n 0 + (a.getD (2 * n) 0 + a.getD (2 * n + 1) 0) := by rw [w64_id] <;> omega
  unfold sq1
  rw [e1, e2, e3]
  split
  · rename_i hc
    have g1 : ∀ j, (((a.set n (a.getD n 0 + (a.getD (2 * n) 0 + a.getD (2 * n + 1) 0))).set (2 * n) 0).set (2 * n + 1) 0).getD j 0 = if 2 * n + 1 = j then 0 else if 2 * n = j then 0 else if n = j then a.getD n 0 + (a.getD (2 * n) 0 + a.getD (2 * n + 1) 0) else a.getD j 0 := fun j => by
      rw [zcd (by first | omega | (simp only [List.length_set]; omega)), zcd (by first | omega | (simp only [List.length_set]; omega)), zcd (by omega)]
    have hs : ∀ p, wsum p 0 (((a.set n (a.getD n 0 + (a.getD (2 * n) 0 + a.getD (2 * n + 1) 0))).set (2 * n) 0).set (2 * n + 1) 0) =
        wsum p 0 a + (if p n = true then a.getD (2 * n) 0 + a.getD (2 * n + 1) 0 else 0) - (if p (2 * n) = true then a.getD (2 * n) 0 else 0) - (if p (2 * n + 1) = true then a.getD (2 * n + 1) 0 else 0) := by
      intro p
      rw [zgO p 0 (by first | omega | (simp only [List.length_set]; omega)), zgO p 0 (by first | omega | (simp only [List.length_set]; omega)), zgO p _ (by omega), zcd (by first | omega | (simp only [List.length_set]; omega)), zcd (by first | omega | (simp only [List.length_set]; omega)), zcd (by first | omega | (simp only [List.length_set]; omega))]
      rw [if_neg (show ¬ 2 * n = 2 * n + 1 by omega), if_neg (show ¬ n = 2 * n + 1 by omega), if_neg (show ¬ n = 2 * n by omega)]
      simp only [Nat.zero_add]
      split <;> split <;> split <;> omega
    refine ⟨⟨by simpa using hlen, fun j => ?_, ?_⟩, ⟨_, _, hl, hh, hs⟩, fun hb h0 j hj1 hj2 => ?_⟩
    · rw [g1]; repeat' split
      all_goals first | omega | exact ha.nn j
    · rw [hs]; simp only [if_true]; omega
    · rw [g1]; repeat' split
      all_goals first | omega | exact hb j hj1 hj2
  · exact ⟨ha, ⟨0, 0, Int.le_refl _, Int.le_refl _, fun p => by simp⟩, fun hb _ => hb⟩
theorem zrh {all top : Int} (ht : top ≤ 1000000000000) : ∀ {n : Nat} {a : List Int}, n ≤ 63 → NumsP a top → NumsP (sqGo all n a) top ∧
      (∀ p : Nat → Bool, (∀ m, 1 ≤ m → m ≤ 63 → p m = true → p (2 * m) = true ∧ p (2 * m + 1) = true) → wsum p 0 (sqGo all n a) ≤ wsum p 0 a) ∧
      (∀ p : Nat → Bool, (∀ m, 1 ≤ m → m ≤ 63 → p (2 * m) = true ∨ p (2 * m + 1) = true → p m = true) → wsum p 0 a ≤ wsum p 0 (sqGo all n a)) ∧
      ((∀ j, 1 ≤ j → j < 64 → a.getD j 0 ≤ w64 (all.tdiv 8)) → 0 ≤ w64 (all.tdiv 8) → ∀ j, 1 ≤ j → j < 64 → (sqGo all n a).getD j 0 ≤ w64 (all.tdiv 8))
  | 0, a, hn, ha => ⟨ha, fun p _ => Int.le_refl _, fun p _ => Int.le_refl _, fun hb _ => hb⟩
  | n + 1, a, hn, ha => by
    obtain ⟨h1, ⟨l, h, hl, hh, hs⟩, h3⟩ := sq1_sum (all := all) (n := n + 1) ha ht (by omega) (by omega)
    obtain ⟨i1, i2, i3, i4⟩ := zrh ht (n := n) (by omega) h1
    refine ⟨i1, fun p hp => Int.le_trans (i2 p hp) ?_, fun p hp => Int.le_trans ?_ (i3 p hp), fun hb h0 => i4 (h3 hb h0) h0⟩
    · rw [hs p]
      have := hp (n + 1) (by omega) (by omega)
      by_cases c : p (n + 1) = true
      · obtain ⟨c1, c2⟩ := this c
        simp only [c, c1, c2, if_true]; omega
      · rw [if_neg c]
        split <;> split <;> omega
    · rw [hs p]
      have := hp (n + 1) (by omega) (by omega)
      by_cases c : p (n + 1) = true
      · simp only [c, if_true]
        split <;> split <;> omega
      · have c1 : ¬ p (2 * (n + 1)) = true := fun h => c (this (.inl h))
        have c2 : ¬ p (2 * (n + 1) + 1) = true := fun h => c (this (.inr h))
        simp only [c, c1, c2]; simp
theorem zri {p : Nat → Bool} : ∀ {l : List Int} {i : Nat}, (∀ j, 0 ≤ l.getD j 0) → ksum p (listGo i l) = wsum p i l
  | [], i, h => rfl
  | x :: l, i, h => by
    have h0 : 0 ≤ x := h 0
    have ih := zri (p := p) (l := l) (i := i + 1) fun j => h (j + 1)
    unfold listGo
    split
    · simp only [ksum, wsum, ih, Int.toNat_natCast]
    · have : x = 0 := by omega
      subst this
      simp [wsum, ih]
theorem ok_list {all : Int} (hall : all ≤ 2000) : ∀ {l : List Int} {i : Nat} {before sum : Int}, before < i → 1 ≤ i → i + l.length ≤ 128 → (∀ j, 0 ≤ l.getD j 0) → (∀ j, i + j < 64 → l.getD j 0 ≤ w64 (all.tdiv 8)) →
    0 ≤ sum → sum + wsum yes i l = all → okGo all (listGo i l) before sum = true
  | [], i, before, sum, h1, h2, h3, h4, h5, h6, h7 => by
    simp only [wsum] at h7
    simp [listGo, okGo]; omega
  | x :: l, i, before, sum, h1, h2, h3, h4, h5, h6, h7 => by
    have hx : 0 ≤ x := h4 0
    have hw := zlV (p := yes) (l := l) (i := i + 1) fun j => h4 (j + 1)
    simp only [wsum, if_true] at h7
    simp only [List.length_cons] at h3
    have ih := fun (b s : Int) (hb : b < ((i + 1 : Nat) : Int)) (hs : 0 ≤ s) (e : s + wsum yes (i + 1) l = all) => ok_list hall (l := l) (i := i + 1) (before := b) (sum := s) hb (by omega) (by omega) (fun j => h4 (j + 1)) (fun j hj => h5 (j + 1) (by omega)) hs e
    unfold listGo
    split
    · unfold okGo
      have e : w64 (sum + x) = sum + x := by rw [w64_id] <;> omega
      have h50 : i < 64 → x ≤ w64 (all.tdiv 8) := fun h => h5 0 (by omega)
      rw [if_neg (by
        show ¬ ((i : Int) ≤ before ∨ 128 ≤ (i : Int) ∨ x < 1 ∨ 2000 < x ∨ ((i : Int) < 64 ∧ w64 (all.tdiv 8) < x))
        rintro (h | h | h | h | ⟨h, h'⟩)
        · omega
        · omega
        · omega
        · omega
        · have := h50 (by omega); omega), e]
      exact ih _ _ (by show (i : Int) < ((i + 1 : Nat) : Int); omega) (by omega) (by omega)
    · have : x = 0 := by omega
      exact ih _ _ (by omega) h6 (by omega)
theorem w64_div {all : Int} (h0 : 0 ≤ all) (h1 : all ≤ 2000) : w64 (all.tdiv 8) = all / 8 := by
  rw [Int.tdiv_eq_ediv_of_nonneg h0, w64_id] <;> omega
theorem zrj {all : Int} (hall : 0 ≤ all) (hall2 : all ≤ 2000) : ∀ {ks : List Knot} {before sum : Int}, 0 ≤ before → before ≤ 127 → 0 ≤ sum → sum + 2000 * (127 - before) ≤ 1000000 → okGo all ks before sum = true →
    sum + ksum yes ks = all ∧ (∀ j : Nat, (j : Int) ≤ before → ksum (fun k => k == j) ks = 0) ∧ (∀ j : Nat, j < 64 → ksum (fun k => k == j) ks ≤ all / 8) ∧ (ks.length : Int) ≤ 127 - before
  | [], before, sum, h0, h1, h2, h3, h => by
    simp [okGo] at h
    subst h
    refine ⟨by simp [ksum], fun j _ => rfl, fun j _ => ?_, by simp; omega⟩
    show (0 : Int) ≤ _; omega
  | k :: r, before, sum, h0, h1, h2, h3, h => by
    unfold okGo at h
    split at h
    · cases h
    · rename_i c
      have e : w64 (sum + k.2.1) = sum + k.2.1 := by rw [w64_id] <;> omega
      rw [e] at h
      have hd := w64_div hall hall2
      obtain ⟨i1, i2, i3, i4⟩ := zrj hall hall2 (by omega) (by omega) (by omega) (by omega) h
      refine ⟨by simp only [ksum, if_true]; omega, fun j hj => ?_, fun j hj => ?_, by simp; omega⟩
      · have : ¬ (k.1.toNat == j) = true := by simp; omega
        simp only [ksum, this]
        rw [i2 j (by omega)]; simp
      · by_cases cj : k.1.toNat = j
        · have : (k.1.toNat == j) = true := by simp [cj]
          simp only [ksum, this, if_true]
          rw [i2 j (by omega)]
          omega
        · have : ¬ (k.1.toNat == j) = true := by simpa using cj
          simp only [ksum, this]
          have := i3 j hj
          simp; omega
structure InForm (ks : List Knot) (all : Int) : Prop where
  good : GoodK ks
  lo : 0 ≤ all
  hi : all ≤ 2000
  sum : ksum yes ks = all
  part : ∀ j : Nat, j < 64 → ksum (fun k => k == j) ks ≤ all / 8
  len : ks.length ≤ 127
theorem zAi {ks : List Knot} {all : Int} (h : okB ks all = true) : InForm ks all := by
  have hg := zlP h
  have ha := okB_all h
  unfold okB at h
  rw [if_neg (by omega)] at h
  obtain ⟨h1, _, h3, h4⟩ := zrj ha.1 ha.2 (Int.le_refl 0) (by omega) (Int.le_refl 0) (by omega) h
  exact ⟨hg, ha.1, ha.2, by omega, h3, by omega⟩
theorem zAj {ka kb : List Knot} {alla allb : Int} (fa : InForm ka alla) (gb : GoodK kb) (sb : ksum yes kb = allb) (b0 : 0 ≤ allb) (pb : ∀ j : Nat, j < 64 → ksum (fun k => k == j) kb ≤ allb / 8) (hs : alla + allb ≤ 2000) :
    okB (sumK ka kb (alla + allb)) (alla + allb) = true ∧
    (∀ p : Nat → Bool, (∀ m, 1 ≤ m → m ≤ 63 → p m = true → p (2 * m) = true ∧ p (2 * m + 1) = true) → ksum p (sumK ka kb (alla + allb)) ≤ ksum p ka + ksum p kb) ∧
    (∀ p : Nat → Bool, (∀ m, 1 ≤ m → m ≤ 63 → p (2 * m) = true ∨ p (2 * m + 1) = true → p m = true) → ksum p ka + ksum p kb ≤ ksum p (sumK ka kb (alla + allb))) := by
  have fa1 := fa.lo
  have fa2 := fa.sum
  obtain ⟨n1, w1⟩ := zlW (ks := ka) fa.good zeros_p (Int.le_refl 0) (by omega)
  obtain ⟨n2, w2⟩ := zlW (ks := kb) gb n1 (by omega) (by omega)
  have hw : ∀ p, wsum p 0 (numsGo kb (numsGo ka zeros)) = ksum p ka + ksum p kb := fun p => by rw [w2, w1, zrg]; omega
  obtain ⟨s1, s2, s3, s4⟩ := zrh (all := alla + allb) (top := 0 + ksum yes ka + ksum yes kb) (by omega) (n := 63) (a := numsGo kb (numsGo ka zeros)) (by omega) n2
  have hd := w64_div (all := alla + allb) (by omega) hs
  have hpart : ∀ j, 1 ≤ j → j < 64 → (numsGo kb (numsGo ka zeros)).getD j 0 ≤ w64 ((alla + allb).tdiv 8) := fun j hj1 hj2 => by
    have := zrf (l := numsGo kb (numsGo ka zeros)) (i := 0) (j := j)
    rw [Nat.zero_add, hw] at this
    rw [← this, hd]
    have := fa.part j hj2
    have := pb j hj2
    omega
  have s4' := s4 hpart (by rw [hd]; omega)
  have hk : ∀ p, ksum p (sumK ka kb (alla + allb)) = wsum p 0 (sqGo (alla + allb) 63 (numsGo kb (numsGo ka zeros))) := fun p => zri s1.nn
  refine ⟨?_, fun p hp => by rw [hk, ← hw]; exact s2 p hp, fun p hp => by rw [hk, ← hw]; exact s3 p hp⟩
  have hz : (sqGo (alla + allb) 63 (numsGo kb (numsGo ka zeros))).getD 0 0 = 0 := by
    rw [zlS, zgM gb, zgM fa.good]; decide
  have htot : wsum yes 0 (sqGo (alla + allb) 63 (numsGo kb (numsGo ka zeros))) = alla + allb := by
    have h1 := s2 yes (fun _ _ _ _ => ⟨rfl, rfl⟩)
    have h2 := s3 yes (fun _ _ _ _ => rfl)
    have h3 := hw yes
    omega
  unfold okB sumK
  rw [if_neg (by omega), zq4 (by omega)]
  obtain ⟨x, r, hxr⟩ : ∃ x r, sqGo (alla + allb) 63 (numsGo kb (numsGo ka zeros)) = x :: r := by
    cases h : sqGo (alla + allb) 63 (numsGo kb (numsGo ka zeros)) with
    | nil => have := s1.len; rw [h] at this; simp at this
    | cons x r => exact ⟨x, r, rfl⟩
  have hl := s1.len
  have hnn := s1.nn
  rw [hxr] at hz htot hl hnn s4' ⊢
  have hx : x = 0 := hz
  subst hx
  simp only [wsum, if_true, List.length_cons] at htot hl
  rw [List.drop_succ_cons, List.drop_zero]
  exact ok_list hs (by omega) (by omega) (by omega) (fun j => hnn (j + 1)) (fun j hj => s4' (j + 1) (by omega) (by omega)) (by omega) (by omega)
def plo (t : Int) (i : Nat) : Bool := decide ((span (i : Int)).2 ≤ t)
def phi (t : Int) (i : Nat) : Bool := decide ((span (i : Int)).1 ≤ t)
theorem zrk : ∀ n : Nat, n < 64 → 1 ≤ n → (span ((2 * n : Nat) : Int)).2 ≤ (span (n : Int)).2 ∧ (span ((2 * n + 1 : Nat) : Int)).2 ≤ (span (n : Int)).2 ∧ (span (n : Int)).1 ≤ (span ((2 * n : Nat) : Int)).1 ∧ (span (n : Int)).1 ≤ (span ((2 * n + 1 : Nat) : Int)).1 := by
  decide +kernel
theorem zAk (t : Int) : ∀ m, 1 ≤ m → m ≤ 63 → plo t m = true → plo t (2 * m) = true ∧ plo t (2 * m + 1) = true := fun m h1 h2 h => by
  have := zrk m (by omega) h1
  unfold plo at h ⊢
  simp only [decide_eq_true_eq] at h ⊢
  omega
theorem zAl (t : Int) : ∀ m, 1 ≤ m → m ≤ 63 → phi t (2 * m) = true ∨ phi t (2 * m + 1) = true → phi t m = true := fun m h1 h2 h => by
  have := zrk m (by omega) h1
  unfold phi at h ⊢
  simp only [decide_eq_true_eq] at h ⊢
  omega
theorem zrl (t : Int) (h0 : 0 ≤ t) (h1 : t ≤ 63) : span (64 + t) = (t, t) := by
  unfold span
  rw [show (63 : Nat) = 62 + 1 from rfl, spanG, if_neg (by omega)]
  have : 64 + t - 64 = t := by omega
  rw [this]
theorem zAm {t : Int} (h0 : 0 ≤ t) (h1 : t ≤ 63) : GoodK [((64 + t, 1, ()) : Knot)] ∧ ksum yes [((64 + t, 1, ()) : Knot)] = 1 ∧ (∀ j : Nat, j < 64 → ksum (fun k => k == j) [((64 + t, 1, ()) : Knot)] ≤ 1 / 8) ∧
    (∀ i : Int, ksum (plo i) [((64 + t, 1, ()) : Knot)] = if t ≤ i then 1 else 0) ∧ (∀ i : Int, ksum (phi i) [((64 + t, 1, ()) : Knot)] = if t ≤ i then 1 else 0) := by
  have e : (((64 + t).toNat : Nat) : Int) = 64 + t := by omega
  refine ⟨fun k hk => ?_, rfl, fun j hj => ?_, fun i => ?_, fun i => ?_⟩
  · simp only [List.mem_singleton] at hk
    subst hk
    show 1 ≤ 64 + t ∧ 64 + t ≤ 127 ∧ (1 : Int) ≤ 1 ∧ (1 : Int) ≤ 2000
    omega
  · have : ((64 + t).toNat == j) = false := by simp; omega
    simp [ksum, this]
  · simp [ksum, plo, e, zrl t h0 h1]
  · simp [ksum, phi, e, zrl t h0 h1]
theorem row_all {a : List Int} (h : rowB a = true) : ∀ x ∈ a, 0 ≤ x ∧ x ≤ 2000 := by
  unfold rowB at h
  simp only [Bool.and_eq_true, List.all_eq_true] at h
  intro x hx
  have := h.2.1 x hx
  unfold rng at this
  simpa using this
def ascN (p : Int → Bool) : Nat → Int → List Int
  | 0, _ => []
  | d + 1, i => cond (p i) (i :: ascN p d (i + 1)) (ascN p d (i + 1))
def fst6 (p : Int → Bool) : List Int := (ascN p 64 0).take 6
theorem zlX {p q : Int → Bool} : ∀ {d : Nat} {i : Int}, (∀ k, i ≤ k → k < i + d → p k = q k) → ascN p d i = ascN q d i
  | 0, i, _ => rfl
  | d + 1, i, h => by
    unfold ascN
    rw [h i (Int.le_refl _) (by omega), zlX (d := d) (i := i + 1) fun k h1 h2 => h k (by omega) (by omega)]
theorem zgP {p : Int → Bool} {x : Int} : ∀ {d : Nat} {i : Int}, x ∈ ascN p d i ↔ i ≤ x ∧ x < i + d ∧ p x = true
  | 0, i => by simp [ascN]; omega
  | d + 1, i => by
    have ih := zgP (p := p) (x := x) (d := d) (i := i + 1)
    unfold ascN
    cases hp : p i
    · simp only [cond_false, ih]
      constructor
      · rintro ⟨h1, h2, h3⟩; exact ⟨by omega, by omega, h3⟩
      · rintro ⟨h1, h2, h3⟩
        have : x ≠ i := fun h => by rw [h, hp] at h3; cases h3
        exact ⟨by omega, by omega, h3⟩
    · simp only [cond_true, List.mem_cons, ih]
      constructor
      · rintro (rfl | ⟨h1, h2, h3⟩)
        · exact ⟨by omega, by omega, hp⟩
        · exact ⟨by omega, by omega, h3⟩
      · rintro ⟨h1, h2, h3⟩
        by_cases h : x = i
        · exact .inl h
        · exact .inr ⟨by omega, by omega, h3⟩
theorem ascN_go {p : Int → Bool} : ∀ {d : Nat} {i b : Int}, b < i → i + d ≤ 64 → fewGo (ascN p d i) b = true
  | 0, i, b, _, _ => rfl
  | d + 1, i, b, h, h2 => by
    unfold ascN
    cases p i
    · exact ascN_go (by omega) (by omega)
    · simp only [cond_true, fewGo, Bool.and_eq_true, decide_eq_true_eq]
      exact ⟨by omega, ascN_go (by omega) (by omega)⟩
theorem zrm : ∀ {n : Nat} {l : List Int} {b : Int}, fewGo l b = true → fewGo (l.take n) b = true
  | 0, l, b, _ => by simp [fewGo]
  | n + 1, [], b, _ => rfl
  | n + 1, x :: l, b, h => by
    simp only [fewGo, Bool.and_eq_true, List.take_succ_cons] at h ⊢
    exact ⟨h.1, zrm h.2⟩
theorem zgQ : ∀ {l : List Int} {b x : Int}, fewGo l b = true → x ∈ l → b < x ∧ x ≤ 63
  | [], b, x, _, h => by cases h
  | y :: l, b, x, h, hx => by
    simp only [fewGo, Bool.and_eq_true, decide_eq_true_eq] at h
    rcases List.mem_cons.1 hx with rfl | hx
    · exact h.1
    · have := zgQ h.2 hx; omega
theorem zlY (p : Int → Bool) : fewB (fst6 p) = true := by
  unfold fewB fst6
  simp only [Bool.and_eq_true, decide_eq_true_eq]
  exact ⟨by rw [List.length_take]; omega, zrm (ascN_go (by omega) (by omega))⟩
theorem asc_of : ∀ {d : Nat} {i b : Int} {l : List Int}, fewGo l b = true → b + 1 = i → i + d = 64 → l = ascN (fun k => l.contains k) d i
  | 0, i, b, l, h, hb, hi => by
    cases l with
    | nil => rfl
    | cons x l => have := zgQ h (List.mem_cons_self ..); omega
  | d + 1, i, b, l, h, hb, hi => by
    unfold ascN
    by_cases hx : ∃ r, l = i :: r
    · obtain ⟨r, rfl⟩ := hx
      simp only [List.contains_cons, beq_self_eq_true, Bool.true_or, cond_true]
      simp only [fewGo, Bool.and_eq_true] at h
      have ih := asc_of (d := d) (i := i + 1) h.2 rfl (by omega)
      conv => lhs; rw [ih]
      congr 1
      refine zlX fun k h1 h2 => ?_
      have : (k == i) = false := by simpa using (by omega : k ≠ i)
      simp only [List.contains_cons, this, Bool.false_or]
    · have hne : ∀ y ∈ l, i < y := by
        cases l with
        | nil => intro y hy; cases hy
        | cons x r =>
          have h1 := zgQ h (List.mem_cons_self ..)
          have h2 : x ≠ i := fun e => hx ⟨r, by rw [e]⟩
          intro y hy
          simp only [fewGo, Bool.and_eq_true] at h
          rcases List.mem_cons.1 hy with rfl | hy
          · omega
          · have := zgQ h.2 hy; omega
      have hc : l.contains i = false := by
        cases hl : l.contains i
        · rfl
        · have := hne i (List.contains_iff_mem.1 hl); omega
      simp only [hc, cond_false]
      have h' : fewGo l i = true := by
        cases l with
        | nil => rfl
        | cons x r =>
          simp only [fewGo, Bool.and_eq_true, decide_eq_true_eq] at h ⊢
          exact ⟨⟨hne x (List.mem_cons_self ..), h.1.2⟩, h.2⟩
      exact asc_of (d := d) (i := i + 1) h' rfl (by omega)
theorem zAn {l : List Int} (h : fewB l = true) : l = fst6 fun k => l.contains k := by
  have h6 := six h
  unfold fewB at h
  simp only [Bool.and_eq_true] at h
  have := asc_of (d := 64) (i := 0) h.2 rfl rfl
  unfold fst6
  rw [← this, List.take_of_length_le h6]
theorem cutM_ne {m : Int} {l : List Int} (h : ∀ x ∈ l, m < x) : cutM m l = l := by
  cases l with
  | nil => rfl
  | cons x r =>
    have := h x (List.mem_cons_self ..)
    have : (x == m) = false := by simpa using (by omega : x ≠ m)
    simp only [cutM, this, cond_false]
theorem cutM_eq {m : Int} {l : List Int} : cutM m (m :: l) = l := by simp [cutM]
theorem zlZ {p q : Int → Bool} : ∀ {d : Nat} {i : Int} {f : Nat}, d ≤ f → mergeM f (ascN p d i) (ascN q d i) = ascN (fun k => p k || q k) d i
  | 0, i, f, h => zlU
  | d + 1, i, 0, h => by omega
  | d + 1, i, f + 1, h => by
    have ih := zlZ (p := p) (q := q) (d := d) (i := i + 1) (f := f) (by omega)
    have ih' := zlZ (p := p) (q := q) (d := d) (i := i + 1) (f := f + 1) (by omega)
    have gp : ∀ x ∈ ascN p d (i + 1), i < x := fun x hx => by have := (zgP.1 hx).1; omega
    have gq : ∀ x ∈ ascN q d (i + 1), i < x := fun x hx => by have := (zgP.1 hx).1; omega
    unfold ascN
    cases hp : p i <;> cases hq : q i <;> simp only [cond_true, cond_false, Bool.or_self, Bool.or_true, Bool.or_false, Bool.true_or, Bool.false_or]
    · exact ih'
    · have e : headM (ascN p d (i + 1)) (i :: ascN q d (i + 1)) = i := by
        cases hl : ascN p d (i + 1) with
        | nil => rfl
        | cons x r =>
          have : i < x := gp x (by rw [hl]; exact List.mem_cons_self ..)
          simp only [headM, this, if_true]
      show cond _ _ _ = _
      simp only [List.isEmpty_cons, Bool.and_false, cond_false, e, cutM_eq, cutM_ne gp, ih]
    · have e : headM (i :: ascN p d (i + 1)) (ascN q d (i + 1)) = i := by
        cases hl : ascN q d (i + 1) with
        | nil => rfl
        | cons x r =>
          have : ¬ x < i := by have := gq x (by rw [hl]; exact List.mem_cons_self ..); omega
          simp only [headM, this, if_false]
      show cond _ _ _ = _
      simp only [List.isEmpty_cons, Bool.false_and, cond_false, e, cutM_eq, cutM_ne gq, ih]
    · have e : headM (i :: ascN p d (i + 1)) (i :: ascN q d (i + 1)) = i := by simp [headM]
      show cond _ _ _ = _
      simp only [List.isEmpty_cons, Bool.and_self, cond_false, e, cutM_eq, ih]
theorem zrn : ∀ {n f f' k k' : Nat} {a b : List Int}, n ≤ f → n ≤ f' → n ≤ k → n ≤ k' → (mergeM f a b).take n = (mergeM f' (a.take k) (b.take k')).take n
  | 0, _, _, _, _, _, _, _, _, _, _ => by simp
  | n + 1, f + 1, f' + 1, k + 1, k' + 1, a, b, h1, h2, h3, h4 => by
    have cut : ∀ (m : Int) (a : List Int) (k : Nat), n + 1 ≤ k + 1 → ∃ k2, n ≤ k2 ∧ cutM m (a.take (k + 1)) = (cutM m a).take k2 := by
      intro m a k hk
      cases a with
      | nil => exact ⟨k, by omega, by simp [cutM]⟩
      | cons x r =>
        cases hx : x == m
        · exact ⟨k + 1, by omega, by simp only [List.take_succ_cons, cutM, hx, cond_false]⟩
        · exact ⟨k, by omega, by simp only [List.take_succ_cons, cutM, hx, cond_true]⟩
    have hh : headM (a.take (k + 1)) (b.take (k' + 1)) = headM a b := by
      cases a <;> cases b <;> rfl
    have hb : ((a.take (k + 1)).isEmpty && (b.take (k' + 1)).isEmpty) = (a.isEmpty && b.isEmpty) := by
      cases a <;> cases b <;> rfl
    obtain ⟨k2, g1, e1⟩ := cut (headM a b) a k h3
    obtain ⟨k3, g2, e2⟩ := cut (headM a b) b k' h4
    unfold mergeM
    rw [hb, hh, e1, e2]
    cases (a.isEmpty && b.isEmpty)
    · simp only [cond_false, List.take_succ_cons]
      rw [zrn (n := n) (f := f) (f' := f') (k := k2) (k' := k3) (by omega) (by omega) g1 g2]
    · rfl
theorem zAo (p q : Int → Bool) : leastL (fst6 p) (fst6 q) = fst6 fun k => p k || q k := by
  unfold leastL fst6
  rw [← zrn (n := 6) (f := 64) (f' := 12) (k := 6) (k' := 6) (by omega) (by omega) (by omega) (by omega), zlZ (Nat.le_refl _)]
theorem zl0 {m : Int} : ∀ {l : List Int}, (∀ x ∈ l, m < x) → putM m l true = l
  | [], _ => rfl
  | x :: r, h => by
    have : (x != m) = true := by simpa using (by have := h x (List.mem_cons_self ..); omega : x ≠ m)
    unfold putM
    simp only [Bool.not_true, Bool.false_and, cond_false, this, cond_true, zl0 fun y hy => h y (List.mem_cons_of_mem _ hy)]
theorem zl1 : ∀ {l : List Int} {f : Nat}, l.length ≤ f → mergeM f l [] = l
  | [], f, _ => zlU
  | x :: r, 0, h => by simp at h
  | x :: r, f + 1, h => by
    show cond _ _ _ = _
    simp only [List.isEmpty_cons, Bool.false_and, cond_false, headM, cutM_eq]
    rw [show cutM x ([] : List Int) = [] from rfl, zl1 (by simpa using h)]
theorem zro {m : Int} : ∀ {l : List Int} {b : Int} {f : Nat}, fewGo l b = true → l.length + 1 ≤ f → putM m l false = mergeM f l [m]
  | [], b, 0, _, h => by omega
  | [], b, f + 1, _, h => by
    show [m] = cond _ _ _
    simp only [List.isEmpty_cons, Bool.and_false, cond_false, headM, cutM_eq]
    rw [show cutM m ([] : List Int) = [] from rfl, zlU]
  | x :: r, b, 0, _, h => by omega
  | x :: r, b, f + 1, hg, h => by
    simp only [fewGo, Bool.and_eq_true] at hg
    simp only [List.length_cons] at h
    have gr : ∀ y ∈ r, x < y := fun y hy => (zgQ hg.2 hy).1
    unfold putM
    show _ = cond _ _ _
    simp only [List.isEmpty_cons, Bool.and_self, cond_false, headM, Bool.not_false, Bool.true_and]
    by_cases c1 : x ≥ m
    · by_cases c2 : x = m
      · subst c2
        have e : ¬ x < x := by omega
        simp only [c1, decide_true, cond_true, bne_self_eq_false, cond_false, zl0 gr, e, if_false, cutM_eq]
        rw [zl1 (by omega)]
      · have e1 : (x != m) = true := by simpa using c2
        have e2 : m < x := by omega
        have e3 : (x == m) = false := by simpa using c2
        simp only [c1, decide_true, cond_true, e1, zl0 (fun y hy => Int.lt_trans e2 (gr y hy)), e2, if_true, cutM_eq]
        rw [show cutM m (x :: r) = x :: r from by simp only [cutM, e3, cond_false], zl1 (by simp; omega)]
    · have e1 : (x != m) = true := by simpa using (by omega : x ≠ m)
      have e2 : ¬ m < x := by omega
      have e3 : (m == x) = false := by simpa using (by omega : m ≠ x)
      simp only [c1, decide_false, cond_false, e1, cond_true, e2, if_false, cutM_eq]
      rw [show cutM x [m] = [m] from by simp only [cutM, e3, cond_false], zro (f := f) hg.2 (by omega)]
theorem one_asc {m : Int} : ∀ {d : Nat} {i : Int}, i ≤ m → m < i + d → ascN (fun k => k == m) d i = [m]
  | 0, i, h1, h2 => by omega
  | d + 1, i, h1, h2 => by
    unfold ascN
    by_cases h : i = m
    · subst h
      have none : ∀ {d : Nat} {j : Int}, i < j → ascN (fun k => k == i) d j = [] := by
        intro d
        induction d with
        | zero => intro j _; rfl
        | succ d ih =>
          intro j hj
          unfold ascN
          have : (j == i) = false := by simpa using (by omega : j ≠ i)
          simp only [this, cond_false, ih (by omega : i < j + 1)]
      simp only [beq_self_eq_true, cond_true, none (by omega : i < i + 1)]
    · have : (i == m) = false := by simpa using h
      simp only [this, cond_false]
      exact one_asc (by omega) (by omega)
theorem zAp {m : Int} (h0 : 0 ≤ m) (h1 : m ≤ 63) : fst6 (fun k => k == m) = [m] := by
  unfold fst6
  rw [one_asc h0 (by omega)]; rfl
theorem zAq {l : List Int} {m : Int} (h : fewB l = true) (h0 : 0 ≤ m) (h1 : m ≤ 63) : few6 l m = leastL l [m] := by
  have h6 := six h
  unfold fewB at h
  simp only [Bool.and_eq_true] at h
  unfold few6 leastL
  rw [zro h.2 (f := 12) (by omega)]
theorem zAr (p : Int → Bool) {m : Int} (h0 : 0 ≤ m) (h1 : m ≤ 63) : few6 (fst6 p) m = fst6 fun k => p k || k == m := by
  rw [zAq (zlY p) h0 h1, ← zAp h0 h1, zAo]
theorem zrp {t : Int} (h : thingB t = true) : 0 ≤ mark t ∧ mark t ≤ 63 := by
  have := zjn h
  unfold mark
  rw [h, cond_true]
  have e1 : w64 (t * 37) = t * 37 := by rw [w64_id] <;> omega
  have e2 : w64 (t * 37 + 11) = t * 37 + 11 := by rw [w64_id] <;> omega
  rw [e1, e2, Int.tmod_eq_emod_of_nonneg (by omega)]
  omega
def revIns (key : Knot → Int) (x : Knot) : List Knot → List Knot
  | [] => [x]
  | y :: r => cond (decide (key x < key y)) (y :: revIns key x r) (x :: y :: r)
def sortR (key : Knot → Int) : List Knot → List Knot → List Knot
  | R, [] => R
  | R, x :: S => sortR key (revIns key x R) S
def isort (key : Knot → Int) (l : List Knot) : List Knot := (sortR key [] l).reverse
def kN (x : Knot) : Int := - x.2.1
theorem zl2 (key : Knot → Int) (x : Knot) : ∀ (R : List Knot), (revIns key x R).Perm (x :: R)
  | [] => List.Perm.refl _
  | y :: r => by
    unfold revIns
    cases decide (key x < key y)
    · exact List.Perm.refl _
    · exact ((zl2 key x r).cons y).trans (List.Perm.swap x y r)
theorem zrq (key : Knot → Int) : ∀ (T R : List Knot), (sortR key R T).Perm (R ++ T)
  | [], R => by rw [List.append_nil]; exact List.Perm.refl _
  | x :: S, R => (zrq key S (revIns key x R)).trans (((zl2 key x R).append_right S).trans (List.perm_middle (a := x) (l₁ := R) (l₂ := S)).symm)
theorem zl3 (key : Knot → Int) (l : List Knot) : (isort key l).Perm l := (List.reverse_perm _).trans (zrq key l [])
theorem zrr (key : Knot → Int) (x : Knot) : ∀ (R : List Knot), R.Pairwise (fun a b => key b ≤ key a) → (revIns key x R).Pairwise (fun a b => key b ≤ key a)
  | [], _ => by simp [revIns]
  | y :: r, h => by
    have h' := List.pairwise_cons.1 h
    unfold revIns
    by_cases c : key x < key y
    · simp only [c, decide_true, cond_true]
      refine List.pairwise_cons.2 ⟨fun z hz => ?_, zrr key x r h'.2⟩
      rcases List.mem_cons.1 ((zl2 key x r).mem_iff.1 hz) with rfl | hz
      · omega
      · exact h'.1 z hz
    · simp only [c, decide_false, cond_false]
      refine List.pairwise_cons.2 ⟨fun z hz => ?_, h⟩
      rcases List.mem_cons.1 hz with rfl | hz
      · omega
      · have := h'.1 z hz; omega
theorem zrs (key : Knot → Int) : ∀ (T R : List Knot), R.Pairwise (fun a b => key b ≤ key a) → (sortR key R T).Pairwise (fun a b => key b ≤ key a)
  | [], R, h => h
  | x :: S, R, h => zrs key S _ (zrr key x R h)
theorem zAs (key : Knot → Int) (l : List Knot) : (isort key l).Pairwise (fun a b => key a ≤ key b) := by
  unfold isort
  rw [List.pairwise_reverse]
  exact zrs key l [] List.Pairwise.nil
theorem zAt (key : Knot → Int) (l : List Knot) : (isort key l).length = l.length := (zl3 key l).length_eq
def cntK : List Knot → Int → Int
  | [], _ => 0
  | x :: r, k => (if x.1 = k then x.2.1 else 0) + cntK r k
def SA (l : List Knot) : Prop := l.Pairwise fun a b => a.1 < b.1
def Pos (m : Int) (l : List Knot) : Prop := ∀ x ∈ l, 0 ≤ x.1 ∧ x.1 ≤ 63 ∧ 1 ≤ x.2.1 ∧ x.2.1 ≤ m
theorem zjq {l : List Knot} {k : Int} (h : ∀ x ∈ l, x.1 ≠ k) : cntK l k = 0 := by
  induction l with
  | nil => rfl
  | cons x r ih => simp only [cntK, h x (List.mem_cons_self ..), if_false, ih fun y hy => h y (List.mem_cons_of_mem _ hy)]; rfl
theorem zl4 (t n : Int) : ∀ (l : List Knot), putP t n l true = l
  | [] => rfl
  | x :: r => by
    unfold putP
    rw [zl4 t n r]; rfl
theorem zrt {m t n : Int} (ht : 0 ≤ t ∧ t ≤ 63) (hn : 1 ≤ n) (hm : n ≤ m) (hm2 : m ≤ 1000000) : ∀ {l : List Knot} {p : Int}, SA l → Pos m l → p < t → (∀ x ∈ l, p < x.1) →
    SA (putP t n l false) ∧ Pos (m + n) (putP t n l false) ∧ (∀ x ∈ putP t n l false, p < x.1) ∧ ∀ k, cntK (putP t n l false) k = cntK l k + if t = k then n else 0
  | [], p, _, _, h, _ => by
    refine ⟨List.pairwise_singleton _ _, fun x hx => ?_, fun x hx => ?_, fun k => ?_⟩
    · rcases List.mem_singleton.1 hx with rfl
      exact ⟨ht.1, ht.2, hn, by show n ≤ _; omega⟩
    · rcases List.mem_singleton.1 hx with rfl
      exact h
    · show (if t = k then n else 0) + 0 = 0 + _; omega
  | x :: r, p, hs, hp, h, hpx => by
    have hs' := List.pairwise_cons.1 hs
    have px := hp x (List.mem_cons_self ..)
    have pr : Pos m r := fun y hy => hp y (List.mem_cons_of_mem _ hy)
    have p0 := hpx x (List.mem_cons_self ..)
    unfold putP
    simp only [zl4, Bool.not_false, Bool.true_and]
    by_cases c1 : x.1 ≥ t
    · by_cases c2 : x.1 = t
      · have e : w64 (n + x.2.1) = n + x.2.1 := by rw [w64_id] <;> omega
        have b : (x.1 == t) = true := by simpa using c2
        simp only [c1, decide_true, cond_true, b, e]
        refine ⟨List.pairwise_cons.2 ⟨fun y hy => by have := hs'.1 y hy; show t < y.1; omega, hs'.2⟩, fun y hy => ?_, fun y hy => ?_, fun k => ?_⟩
        · rcases List.mem_cons.1 hy with rfl | hy
          · exact ⟨ht.1, ht.2, by show 1 ≤ n + x.2.1; omega, by show n + x.2.1 ≤ _; omega⟩
          · have := pr y hy; exact ⟨this.1, this.2.1, this.2.2.1, by omega⟩
        · rcases List.mem_cons.1 hy with rfl | hy
          · exact h
          · exact hpx y (List.mem_cons_of_mem _ hy)
        · show (if t = k then n + x.2.1 else 0) + cntK r k = (if x.1 = k then x.2.1 else 0) + cntK r k + _
          rw [c2]; split <;> omega
      · have b : (x.1 == t) = false := by simpa using c2
        simp only [c1, decide_true, cond_true, b, cond_false]
        refine ⟨List.pairwise_cons.2 ⟨fun y hy => ?_, hs⟩, fun y hy => ?_, fun y hy => ?_, fun k => ?_⟩
        · rcases List.mem_cons.1 hy with rfl | hy
          · show t < x.1; omega
          · have := hs'.1 y hy; show t < y.1; omega
        · rcases List.mem_cons.1 hy with rfl | hy
          · exact ⟨ht.1, ht.2, hn, by show n ≤ _; omega⟩
          · have := hp y hy; exact ⟨this.1, this.2.1, this.2.2.1, by omega⟩
        · rcases List.mem_cons.1 hy with rfl | hy
          · exact h
          · exact hpx y hy
        · show (if t = k then n else 0) + ((if x.1 = k then x.2.1 else 0) + cntK r k) = (if x.1 = k then x.2.1 else 0) + cntK r k + _
          omega
    · simp only [c1, decide_false, cond_false]
      obtain ⟨i1, i2, i3, i4⟩ := zrt (p := x.1) ht hn hm hm2 hs'.2 pr (by omega) hs'.1
      refine ⟨List.pairwise_cons.2 ⟨i3, i1⟩, fun y hy => ?_, fun y hy => ?_, fun k => ?_⟩
      · rcases List.mem_cons.1 hy with rfl | hy
        · exact ⟨px.1, px.2.1, px.2.2.1, by show x.2.1 ≤ _; omega⟩
        · exact i2 y hy
      · rcases List.mem_cons.1 hy with rfl | hy
        · exact p0
        · have := i3 y hy; omega
      · show (if x.1 = k then x.2.1 else 0) + cntK (putP t n r false) k = (if x.1 = k then x.2.1 else 0) + cntK r k + _
        rw [i4]; omega
theorem Pos.mono {m n : Int} {l : List Knot} (h : Pos m l) (hm : m ≤ n) : Pos n l := fun x hx => by have := h x hx; exact ⟨this.1, this.2.1, this.2.2.1, by omega⟩
theorem zru {all : Int} (h0 : 0 ≤ all) (h1 : all ≤ 2000) : ∀ {l : List Knot} {p s : Int}, -1 ≤ p → 0 ≤ s → s ≤ 100000 → l.length ≤ 8 → s + 2000 * l.length ≤ 1000000 → topGo all l p s = true → (∀ x ∈ l, p < x.1) ∧ SA l ∧ Pos 2000 l
  | [], _, _, _, _, _, _, _, _ => ⟨fun x hx => (by cases hx), List.Pairwise.nil, fun x hx => (by cases hx)⟩
  | x :: r, p, s, hp, hs, hs2, hl, hb, h => by
    simp only [topGo, Bool.and_eq_true, decide_eq_true_eq] at h
    simp only [List.length_cons] at hl hb
    obtain ⟨hx, hr⟩ := h
    have e : w64 (s + x.2.1) = s + x.2.1 := by rw [w64_id] <;> omega
    rw [e] at hr
    by_cases hb2 : s + x.2.1 ≤ 100000
    · obtain ⟨i1, i2, i3⟩ := zru h0 h1 (by omega) (by omega) hb2 (by omega) (by omega) hr
      refine ⟨fun y hy => ?_, List.pairwise_cons.2 ⟨i1, i2⟩, fun y hy => ?_⟩
      · rcases List.mem_cons.1 hy with rfl | hy
        · exact hx.1
        · have := i1 y hy; omega
      · rcases List.mem_cons.1 hy with rfl | hy
        · exact ⟨by omega, hx.2.1, hx.2.2.1, hx.2.2.2⟩
        · exact i3 y hy
    · exfalso
      have big : ∀ (l : List Knot) (p s : Int), 2000 < s → s + 2000 * l.length ≤ 1000000 → topGo all l p s = true → False := by
        intro l
        induction l with
        | nil => intro p s hs _ h; simp only [topGo, decide_eq_true_eq] at h; omega
        | cons y l ih =>
          intro p s hs hb h
          simp only [topGo, Bool.and_eq_true, decide_eq_true_eq] at h
          simp only [List.length_cons] at hb
          have e : w64 (s + y.2.1) = s + y.2.1 := by rw [w64_id] <;> omega
          rw [e] at h
          exact ih y.1 (s + y.2.1) (by omega) (by omega) h.2
      exact big r x.1 (s + x.2.1) (by omega) (by omega) hr
theorem zAu {l : List Knot} {lost all : Int} (h : topB l lost all = true) : SA l ∧ Pos 2000 l ∧ l.length ≤ 4 ∧ 0 ≤ lost ∧ lost ≤ 2000 ∧ 0 ≤ all ∧ all ≤ 2000 := by
  have f := four h
  unfold topB at h
  simp only [Bool.and_eq_true] at h
  have g := zru f.2.2.2.1 f.2.2.2.2 (by omega) (by omega) (by omega) (by omega) (by omega) h.2
  exact ⟨g.2.1, g.2.2, f⟩
theorem zAv {m : Int} {l : List Knot} (hl : l.length < 1000) : cntGe m l = ((l.countP fun x => decide (x.2.1 ≥ m)) : Nat) := by
  have gen : ∀ (l : List Knot) (n : Nat), n + l.length < 1000 → l.foldl (fun (n : Int) x => cond (decide (x.2.1 ≥ m)) (w64 (n + 1)) n) (n : Int) = ((n + l.countP fun x => decide (x.2.1 ≥ m) : Nat) : Int) := by
    intro l
    induction l with
    | nil => intro n _; rfl
    | cons x l ih =>
      intro n hn
      simp only [List.length_cons] at hn
      rw [List.foldl_cons, List.countP_cons]
      cases hc : decide (x.2.1 ≥ m)
      · simp only [cond_false]
        rw [ih n (by omega)]; simp
      · have e : w64 ((n : Int) + 1) = ((n + 1 : Nat) : Int) := by rw [w64_id] <;> omega
        simp only [cond_true, e]
        rw [ih (n + 1) (by omega)]; simp; omega
  have := gen l 0 (by omega)
  simpa [cntGe] using this
theorem zl5 (p : Knot → Bool) : ∀ (l : List Knot) (b : Int), (∀ x ∈ l, p x = true → x.2.1 ≤ l.foldl (fun b x => cond (p x) (if x.2.1 > b then x.2.1 else b) b) b) ∧ b ≤ l.foldl (fun b x => cond (p x) (if x.2.1 > b then x.2.1 else b) b) b ∧
    (l.foldl (fun b x => cond (p x) (if x.2.1 > b then x.2.1 else b) b) b = b ∨ ∃ x ∈ l, p x = true ∧ l.foldl (fun b x => cond (p x) (if x.2.1 > b then x.2.1 else b) b) b = x.2.1)
  | [], b => ⟨fun x hx => (by cases hx), Int.le_refl _, .inl rfl⟩
  | y :: l, b => by
    rw [List.foldl_cons]
    obtain ⟨i1, i2, i3⟩ := zl5 p l (cond (p y) (if y.2.1 > b then y.2.1 else b) b)
    generalize l.foldl (fun b x => cond (p x) (if x.2.1 > b then x.2.1 else b) b) (cond (p y) (if y.2.1 > b then y.2.1 else b) b) = r at i1 i2 i3
    refine ⟨fun x hx hp => ?_, ?_, ?_⟩
    · rcases List.mem_cons.1 hx with rfl | hx
      · rw [hp, cond_true] at i2
        split at i2 <;> omega
      · exact i1 x hx hp
    · cases hp : p y
      · rw [hp, cond_false] at i2; exact i2
      · rw [hp, cond_true] at i2; split at i2 <;> omega
    · rcases i3 with h | ⟨x, hx, h1, h2⟩
      · cases hp : p y
        · rw [hp, cond_false] at h; exact .inl h
        · rw [hp, cond_true] at h
          by_cases hc : y.2.1 > b
          · rw [if_pos hc] at h; exact .inr ⟨y, List.mem_cons_self .., hp, h⟩
          · rw [if_neg hc] at h; exact .inl h
      · exact .inr ⟨x, List.mem_cons_of_mem _ hx, h1, h2⟩
theorem zrv {l : List Knot} (hl : l.length < 1000) : over3 l = l.foldl (fun b x => cond (decide (4 < l.countP fun y => decide (y.2.1 ≥ x.2.1))) (if x.2.1 > b then x.2.1 else b) b) 0 := by
  unfold over3
  congr 1
  funext b x
  congr 1
  rw [zAv hl]
  exact decide_eq_decide.2 (by omega)
theorem zAw {l : List Knot} (h : l.length ≤ 4) : over3 l = 0 := by
  rw [zrv (by omega)]
  have g := zl5 (fun x => decide (4 < l.countP fun y => decide (y.2.1 ≥ x.2.1))) l 0
  rcases g.2.2 with h' | ⟨x, _, h1, _⟩
  · exact h'
  · have := List.countP_le_length (p := fun y : Knot => decide (y.2.1 ≥ x.2.1)) (l := l)
    have := of_decide_eq_true h1
    omega
theorem fifth {l : List Knot} {m : Int} (hp : Pos m l) {a0 a1 a2 a3 a4 : Knot} {r : List Knot} (h : isort kN l = a0 :: a1 :: a2 :: a3 :: a4 :: r) (hl : l.length < 1000) :
    over3 l = a4.2.1 ∧ 5 ≤ (l.countP fun y => decide (y.2.1 ≥ a4.2.1)) ∧ (l.countP fun y => decide (a4.2.1 < y.2.1)) ≤ 4 ∧ 1 ≤ a4.2.1 := by
  have pm := zl3 kN l
  have up := zAs kN l
  rw [h] at pm up
  simp only [List.pairwise_cons] at up
  obtain ⟨u0, u1, u2, u3, u4, -⟩ := up
  have m4 : a4 ∈ l := pm.mem_iff.1 (by simp)
  have p4 := hp a4 m4
  have g0 : a0.2.1 ≥ a4.2.1 := by have := u0 a4 (by simp); unfold kN at this; omega
  have g1 : a1.2.1 ≥ a4.2.1 := by have := u1 a4 (by simp); unfold kN at this; omega
  have g2 : a2.2.1 ≥ a4.2.1 := by have := u2 a4 (by simp); unfold kN at this; omega
  have g3 : a3.2.1 ≥ a4.2.1 := by have := u3 a4 (by simp); unfold kN at this; omega
  have gr : ∀ y ∈ r, y.2.1 ≤ a4.2.1 := fun y hy => by have := u4 y hy; unfold kN at this; omega
  have c5 : 5 ≤ (l.countP fun y => decide (y.2.1 ≥ a4.2.1)) := by
    rw [← pm.countP_eq]
    simp only [List.countP_cons, g0, g1, g2, g3, Int.le_refl, ge_iff_le, decide_true, if_true]
    omega
  have top4 : ∀ v : Int, a4.2.1 < v → (l.countP fun y => decide (v ≤ y.2.1)) ≤ 4 := fun v hv => by
    rw [← pm.countP_eq]
    have z : (r.countP fun y => decide (v ≤ y.2.1)) = 0 := by
      rw [List.countP_eq_zero]
      intro y hy
      have := gr y hy
      simp; omega
    have z4 : ¬ v ≤ a4.2.1 := by omega
    simp only [List.countP_cons, z, z4, decide_false]
    have : ∀ b : Bool, (if b = true then 1 else 0) ≤ 1 := fun b => by cases b <;> simp
    have h0 := this (decide (v ≤ a0.2.1))
    have h1 := this (decide (v ≤ a1.2.1))
    have h2 := this (decide (v ≤ a2.2.1))
    have h3 := this (decide (v ≤ a3.2.1))
    simp only [Bool.false_eq_true, if_false]
    omega
  refine ⟨?_, c5, ?_, p4.2.2.1⟩
  · rw [zrv hl]
    have g := zl5 (fun x => decide (4 < l.countP fun y => decide (y.2.1 ≥ x.2.1))) l 0
    generalize l.foldl (fun b x => cond (decide (4 < l.countP fun y => decide (y.2.1 ≥ x.2.1))) (if x.2.1 > b then x.2.1 else b) b) 0 = w at g
    have lo := g.1 a4 m4 (decide_eq_true (by omega))
    rcases g.2.2 with h' | ⟨x, _, h1, h2⟩
    · omega
    · have h3 : 4 < l.countP fun y => decide (y.2.1 ≥ x.2.1) := of_decide_eq_true h1
      by_cases hx : a4.2.1 < x.2.1
      · have h4 : (l.countP fun y => decide (y.2.1 ≥ x.2.1)) ≤ 4 := top4 x.2.1 hx
        omega
      · omega
  · have := top4 (a4.2.1 + 1) (by omega)
    exact this
theorem zrw : ∀ {l : List Knot}, Pos 1000000 l → less3 0 l = l
  | [], _ => rfl
  | x :: r, h => by
    have px := h x (List.mem_cons_self ..)
    have e : w64 (x.2.1 - 0) = x.2.1 := by rw [w64_id] <;> omega
    have c : decide (x.2.1 > 0) = true := decide_eq_true (by omega)
    unfold less3
    rw [c, e, cond_true, zrw fun y hy => h y (List.mem_cons_of_mem _ hy)]
def In2k (l : List Int) : Prop := ∀ x ∈ l, 0 ≤ x ∧ x ≤ 2000
theorem zrx {l : List Int} (h : In2k l) (hl : l.length ≤ 1000) : isum l = l.sum := by
  have gen : ∀ (l : List Int) (s : Int), In2k l → 0 ≤ s → s + 2000 * l.length ≤ 4000000 → l.foldl (fun s x => w64 (s + x)) s = s + l.sum := by
    intro l
    induction l with
    | nil => intro s _ _ _; simp
    | cons x l ih =>
      intro s h h0 hb
      have hx := h x (List.mem_cons_self ..)
      simp only [List.length_cons] at hb
      have e : w64 (s + x) = s + x := by rw [w64_id] <;> omega
      rw [List.foldl_cons, e, ih (s + x) (fun y hy => h y (List.mem_cons_of_mem _ hy)) (by omega) (by omega), List.sum_cons]; omega
  unfold isum
  rw [gen l 0 h (by omega) (by omega)]; omega
theorem sum_set : ∀ {l : List Int} {i : Nat} {v : Int}, i < l.length → (l.set i v).sum = l.sum - l.getD i 0 + v
  | [], i, v, h => by simp at h
  | x :: l, 0, v, _ => by simp [List.sum_cons]; omega
  | x :: l, i + 1, v, h => by
    have := sum_set (l := l) (i := i) (v := v) (by simpa using h)
    rw [List.set_cons_succ, List.sum_cons, List.sum_cons, this, List.getD_cons_succ]; omega
theorem sum_nn : ∀ {l : List Int}, (∀ x ∈ l, 0 ≤ x) → 0 ≤ l.sum
  | [], _ => by simp
  | x :: l, h => by
    have h1 := h x (List.mem_cons_self ..)
    have h2 := sum_nn fun y hy => h y (List.mem_cons_of_mem _ hy)
    rw [List.sum_cons]; omega
theorem le_sum : ∀ {l : List Int}, (∀ x ∈ l, 0 ≤ x) → ∀ x ∈ l, x ≤ l.sum
  | y :: l, h, x, hx => by
    have h1 := h y (List.mem_cons_self ..)
    have h2 := sum_nn fun z hz => h z (List.mem_cons_of_mem _ hz)
    rw [List.sum_cons]
    rcases List.mem_cons.1 hx with rfl | hx
    · omega
    · have := le_sum (fun z hz => h z (List.mem_cons_of_mem _ hz)) x hx; omega
theorem zAx {l : List Int} {i : Nat} (h : i < l.length) : l.getD i 0 ∈ l := by
  rw [List.getD_eq_getElem?_getD, List.getElem?_eq_getElem h]; exact List.getElem_mem h
theorem zAy {l : List Int} {i j : Nat} {x : Int} (h : i < l.length) : (l.set i x).getD j 0 = if i = j then x else l.getD j 0 := by
  rw [List.getD_eq_getElem?_getD, List.getElem?_set]
  split
  · simp [h]
  · rw [List.getD_eq_getElem?_getD]
theorem rowB_of {l : List Int} (h8 : l.length = 8) (hn : ∀ x ∈ l, 0 ≤ x) (hs : l.sum ≤ 2000) : rowB l = true ∧ isum l = l.sum := by
  have h2 : In2k l := fun x hx => ⟨hn x hx, by have := le_sum hn x hx; omega⟩
  have e := zrx h2 (by omega)
  refine ⟨?_, e⟩
  unfold rowB
  simp only [h8, e, hs, decide_true, Bool.true_and, Bool.and_true, List.all_eq_true]
  intro x hx
  exact decide_eq_true (h2 x hx)
theorem zry {l : List Int} (h : rowB l = true) : l.length = 8 ∧ In2k l ∧ isum l = l.sum ∧ 0 ≤ l.sum ∧ l.sum ≤ 2000 := by
  have h8 := row_len h
  have h2 : In2k l := row_all h
  have e := zrx h2 (by omega)
  refine ⟨h8, h2, e, sum_nn fun x hx => (h2 x hx).1, ?_⟩
  unfold rowB at h
  simp only [Bool.and_eq_true, decide_eq_true_eq] at h
  omega
theorem zl6 {a : List Int} {i : Nat} {n : Int} (h : rowB a = true) (hi : i < 8) (h0 : 0 ≤ n) (hs : isum a + n ≤ 2000) :
    rowB (add1 a i n) = true ∧ isum (add1 a i n) = isum a + n ∧ ∀ j, (add1 a i n).getD j 0 = a.getD j 0 + if i = j then n else 0 := by
  obtain ⟨h8, h2, e, s0, s1⟩ := zry h
  have hil : i < a.length := by omega
  have hx := h2 _ (zAx hil)
  have ew : w64 (a.getD i 0 + n) = a.getD i 0 + n := by rw [w64_id] <;> omega
  have es : (add1 a i n).sum = a.sum + n := by
    unfold add1
    rw [sum_set hil, ew]; omega
  have r := rowB_of (l := add1 a i n) (by unfold add1; rw [List.length_set]; exact h8) (fun x hx' => by
    unfold add1 at hx'
    rw [ew] at hx'
    rcases List.mem_or_eq_of_mem_set hx' with h' | h'
    · exact (h2 x h').1
    · omega) (by omega)
  refine ⟨r.1, by rw [r.2, es, e], fun j => ?_⟩
  unfold add1
  rw [zAy hil, ew]
  split
  · rename_i h; subst h; rfl
  · omega
theorem zAz {a b c : List Int} (ha : rowB a = true) (hb : rowB b = true) (hc : rowB c = true) (h1 : isum b = isum a) (h2 : isum c = isum a) : roughB [a, b, c] = true := by
  unfold roughB
  simp [ha, hb, hc, h1, h2]
theorem allR_eq {rs : List (List Int)} (h : roughB rs = true) : allR rs = isum (rs.getD 0 []) := by unfold allR; rw [h]; rfl
def cell (rs : List (List Int)) (i j : Nat) : Int := (rs.getD i []).getD j 0
theorem zAA {rs : List (List Int)} {t n : Int} (h : roughB rs = true) (ht : thingB t = true) (h0 : 0 ≤ n) (hs : allR rs + n ≤ 2000) :
    (roughAdd rs t n).2 = true ∧ roughB (roughAdd rs t n).1 = true ∧ allR (roughAdd rs t n).1 = allR rs + n ∧ ∀ i, i < 3 → ∀ j, cell (roughAdd rs t n).1 i j = cell rs i j + if pl i t = j then n else 0 := by
  rw [allR_eq h] at hs ⊢
  obtain ⟨a, b, c, rfl, ha, hb, hc, e1, e2⟩ := zjo h
  rw [List.getD_cons_zero] at hs ⊢
  have sa := zry ha
  have ew : w64 (2000 - isum a) = 2000 - isum a := by rw [w64_id] <;> omega
  have cn : 0 ≤ n ∧ n ≤ w64 (2000 - isum a) := by rw [ew]; omega
  obtain ⟨a1, a2, a3⟩ := zl6 ha (pl_lt 0 t) h0 hs
  obtain ⟨b1, b2, b3⟩ := zl6 hb (pl_lt 1 t) h0 (by omega)
  obtain ⟨c1, c2, c3⟩ := zl6 hc (pl_lt 2 t) h0 (by omega)
  have er : roughAdd [a, b, c] t n = ([add1 a (pl 0 t) n, add1 b (pl 1 t) n, add1 c (pl 2 t) n], true) := by
    unfold roughAdd
    simp only [h, ht, List.getD_cons_zero, cn, and_self, decide_true, Bool.and_self, cond_true]
    rfl
  rw [er]
  have hB := zAz a1 b1 c1 (by omega) (by omega)
  refine ⟨rfl, hB, by rw [allR_eq hB]; exact a2, fun i hi j => ?_⟩
  match i, hi with
  | 0, _ => exact a3 j
  | 1, _ => exact b3 j
  | 2, _ => exact c3 j
def sumN : List Knot → Int
  | [] => 0
  | x :: r => x.2.1 + sumN r
theorem sumN_nn {m : Int} : ∀ {l : List Knot}, Pos m l → 0 ≤ sumN l
  | [], _ => Int.le_refl 0
  | x :: r, h => by
    have h1 := h x (List.mem_cons_self ..)
    have h2 := sumN_nn (l := r) fun y hy => h y (List.mem_cons_of_mem _ hy)
    show 0 ≤ x.2.1 + sumN r; omega
theorem zrz {all : Int} : ∀ {l : List Knot} {p s : Int}, 0 ≤ s → s + 2000 * l.length ≤ 1000000 → topGo all l p s = true → s + sumN l ≤ all
  | [], p, s, _, _, h => by simp only [topGo, decide_eq_true_eq] at h; simp only [sumN]; omega
  | x :: r, p, s, h0, hb, h => by
    simp only [topGo, Bool.and_eq_true, decide_eq_true_eq] at h
    simp only [List.length_cons] at hb
    have e : w64 (s + x.2.1) = s + x.2.1 := by rw [w64_id] <;> omega
    rw [e] at h
    have := zrz (l := r) (by omega) (by omega) h.2
    simp only [sumN]; omega
theorem zrA {all m : Int} (ha : all ≤ 2000) : ∀ {l : List Knot} {p s : Int}, 0 ≤ s → SA l → Pos m l → (∀ x ∈ l, p < x.1) → s + sumN l ≤ all → topGo all l p s = true
  | [], p, s, _, _, _, _, h => by simp only [topGo, decide_eq_true_eq]; simp only [sumN] at h; omega
  | x :: r, p, s, h0, hs, hp, hx, h => by
    have hs' := List.pairwise_cons.1 hs
    have px := hp x (List.mem_cons_self ..)
    have pr : Pos m r := fun y hy => hp y (List.mem_cons_of_mem _ hy)
    have nn := sumN_nn pr
    simp only [sumN] at h
    have e : w64 (s + x.2.1) = s + x.2.1 := by rw [w64_id] <;> omega
    simp only [topGo, Bool.and_eq_true, decide_eq_true_eq, e]
    exact ⟨⟨hx x (List.mem_cons_self ..), px.2.1, px.2.2.1, by omega⟩, zrA ha (by omega) hs'.2 pr hs'.1 (by omega)⟩
theorem zAB {l : List Knot} {lost all : Int} (h : topB l lost all = true) : sumN l + 5 * lost ≤ all := by
  have f := four h
  unfold topB at h
  simp only [Bool.and_eq_true] at h
  have := zrz (by omega) (by omega) h.2
  omega
theorem topB_mk {l : List Knot} {lost all m : Int} (hs : SA l) (hp : Pos m l) (h4 : l.length ≤ 4) (h0 : 0 ≤ lost) (ha0 : 0 ≤ all) (ha : all ≤ 2000) (h : sumN l + 5 * lost ≤ all) : topB l lost all = true := by
  have nn := sumN_nn hp
  unfold topB
  simp only [Bool.and_eq_true, decide_eq_true_eq]
  exact ⟨⟨h4, h0, by omega, ha0, ha⟩, zrA ha (by omega) hs hp (fun x hx => by have := hp x hx; omega) (by omega)⟩
theorem zrB {t n : Int} : ∀ {l : List Knot} {m : Int}, Pos m l → 0 ≤ n → n ≤ 1000000 → m ≤ 1000000 → sumN (putP t n l false) = sumN l + n
  | [], m, _, _, _, _ => by show n + 0 = 0 + n; omega
  | x :: r, m, hp, h0, h1, hm => by
    have px := hp x (List.mem_cons_self ..)
    unfold putP
    simp only [zl4, Bool.not_false, Bool.true_and]
    cases hc : decide (x.1 ≥ t)
    · simp only [cond_false]
      show x.2.1 + sumN (putP t n r false) = x.2.1 + sumN r + n
      rw [zrB (fun y hy => hp y (List.mem_cons_of_mem _ hy)) h0 h1 hm]; omega
    · simp only [cond_true]
      cases hd : (x.1 == t)
      · simp only [cond_false]
        show n + (x.2.1 + sumN r) = x.2.1 + sumN r + n
        omega
      · have e : w64 (n + x.2.1) = n + x.2.1 := by rw [w64_id] <;> omega
        simp only [cond_true, e]
        show n + x.2.1 + sumN r = x.2.1 + sumN r + n
        omega
theorem zrC {m M : Int} (h0 : 0 ≤ m) (h1 : m ≤ 1000000) (hM : M ≤ 1000000) : ∀ {l : List Knot}, SA l → Pos M l → SA (less3 m l) ∧ Pos M (less3 m l) ∧ (∀ x ∈ less3 m l, ∃ y ∈ l, y.1 = x.1) ∧
    sumN (less3 m l) + m * (l.countP fun y => decide (y.2.1 ≥ m)) ≤ sumN l ∧ (less3 m l).length = (l.countP fun y => decide (m < y.2.1)) ∧
    ∀ k, cntK (less3 m l) k ≤ cntK l k ∧ cntK l k ≤ cntK (less3 m l) k + m
  | [], hs, hp => ⟨hs, hp, fun x hx => by simp [less3] at hx, by simp [less3, sumN], rfl, fun k => by simp [less3, cntK]; omega⟩
  | x :: r, hs, hp => by
    have hs' := List.pairwise_cons.1 hs
    have px := hp x (List.mem_cons_self ..)
    obtain ⟨i1, i2, i3, i4, i5, i6⟩ := zrC h0 h1 hM hs'.2 (fun y hy => hp y (List.mem_cons_of_mem _ hy))
    have e : w64 (x.2.1 - m) = x.2.1 - m := by
      rw [w64_id] <;> omega
    unfold less3
    rw [e]
    by_cases hc : x.2.1 > m
    · have hg : x.2.1 ≥ m := by omega
      simp only [hc, decide_true, cond_true, List.countP_cons, hg, gt_iff_lt.1 hc, if_true]
      refine ⟨List.pairwise_cons.2 ⟨fun y hy => ?_, i1⟩, fun y hy => ?_, fun y hy => ?_, ?_, ?_, fun k => ?_⟩
      · obtain ⟨z, hz, hzy⟩ := i3 y hy
        have := hs'.1 z hz
        show x.1 < y.1; omega
      · rcases List.mem_cons.1 hy with rfl | hy
        · exact ⟨px.1, px.2.1, by show 1 ≤ x.2.1 - m; omega, by show x.2.1 - m ≤ M; omega⟩
        · exact i2 y hy
      · rcases List.mem_cons.1 hy with rfl | hy
        · exact ⟨x, List.mem_cons_self .., rfl⟩
        · obtain ⟨z, hz, hzy⟩ := i3 y hy
          exact ⟨z, List.mem_cons_of_mem _ hz, hzy⟩
      · show x.2.1 - m + sumN (less3 m r) + m * (((r.countP fun y => decide (y.2.1 ≥ m)) + 1 : Nat) : Int) ≤ x.2.1 + sumN r
        rw [Int.natCast_add, Int.mul_add]
        omega
      · rw [List.length_cons, i5]
      · have := i6 k
        show (if x.1 = k then x.2.1 - m else 0) + cntK (less3 m r) k ≤ (if x.1 = k then x.2.1 else 0) + cntK r k ∧ (if x.1 = k then x.2.1 else 0) + cntK r k ≤ (if x.1 = k then x.2.1 - m else 0) + cntK (less3 m r) k + m
        by_cases hk : x.1 = k
        · have c0 : cntK r k = 0 := zjq fun y hy => by have := hs'.1 y hy; omega
          have c1 : cntK (less3 m r) k = 0 := zjq fun y hy => by
            obtain ⟨z, hz, hzy⟩ := i3 y hy
            have := hs'.1 z hz; omega
          rw [if_pos hk, if_pos hk, c0, c1]; omega
        · rw [if_neg hk, if_neg hk]; omega
    · have hn : ¬ m < x.2.1 := hc
      simp only [hc, decide_false, cond_false, List.countP_cons, hn, Bool.false_eq_true, if_false]
      refine ⟨i1, i2, fun y hy => ?_, ?_, by omega, fun k => ?_⟩
      · obtain ⟨z, hz, hzy⟩ := i3 y hy
        exact ⟨z, List.mem_cons_of_mem _ hz, hzy⟩
      · show sumN (less3 m r) + m * (((r.countP fun y => decide (y.2.1 ≥ m)) + (if decide (x.2.1 ≥ m) = true then 1 else 0) : Nat) : Int) ≤ x.2.1 + sumN r
        by_cases hg : x.2.1 ≥ m
        · simp only [hg, decide_true, if_true]
          rw [Int.natCast_add, Int.mul_add]
          omega
        · simp only [hg, decide_false, Bool.false_eq_true, if_false, Nat.add_zero]
          omega
      · have := i6 k
        show cntK (less3 m r) k ≤ (if x.1 = k then x.2.1 else 0) + cntK r k ∧ (if x.1 = k then x.2.1 else 0) + cntK r k ≤ cntK (less3 m r) k + m
        by_cases hk : x.1 = k
        · have c0 : cntK r k = 0 := zjq fun y hy => by have := hs'.1 y hy; omega
          have c1 : cntK (less3 m r) k = 0 := zjq fun y hy => by
            obtain ⟨z, hz, hzy⟩ := i3 y hy
            have := hs'.1 z hz; omega
          rw [if_pos hk, c0, c1]; omega
        · rw [if_neg hk]; omega
theorem cut3_ok {l : List Knot} {lost all m : Int} (hs : SA l) (hp : Pos m l) (hm : m ≤ 1000000) (hl : l.length < 13) (h0 : 0 ≤ lost) (ha0 : 0 ≤ all) (ha : all ≤ 2000) (hsum : sumN l + 5 * lost ≤ all) :
    topB (cut3 l lost all).1 (cut3 l lost all).2.1 (cut3 l lost all).2.2.1 = true ∧ (cut3 l lost all).2.2.1 = all ∧ lost ≤ (cut3 l lost all).2.1 ∧
    ∀ k, cntK (cut3 l lost all).1 k ≤ cntK l k ∧ cntK l k + lost ≤ cntK (cut3 l lost all).1 k + (cut3 l lost all).2.1 := by
  have hp1 : Pos 1000000 l := hp.mono hm
  have nn := sumN_nn hp
  by_cases h : l.length ≤ 4
  · have e : cut3 l lost all = (l, lost, all, ()) := by
      have ew : w64 (lost + 0) = lost := by rw [w64_id] <;> omega
      unfold cut3
      rw [zAw h, zrw hp1, ew]
    rw [e]
    exact ⟨topB_mk hs hp h h0 ha0 ha hsum, rfl, Int.le_refl _, fun k => ⟨Int.le_refl _, Int.le_refl _⟩⟩
  · have hsl := zAt kN l
    obtain ⟨a0, a1, a2, a3, a4, r, hr⟩ : ∃ a0 a1 a2 a3 a4 r, isort kN l = a0 :: a1 :: a2 :: a3 :: a4 :: r := by
      match hq : isort kN l with
      | [] | [_] | [_, _] | [_, _, _] | [_, _, _, _] => rw [hq] at hsl; simp at hsl; omega
      | a0 :: a1 :: a2 :: a3 :: a4 :: r => exact ⟨a0, a1, a2, a3, a4, r, rfl⟩
    obtain ⟨f1, f2, f3, f4⟩ := fifth hp hr (by omega)
    obtain ⟨i1, i2, -, i4, i5, i6⟩ := zrC (m := a4.2.1) (by omega) (by have := hp a4 ((zl3 kN l).mem_iff.1 (by rw [hr]; simp)); omega) hm hs hp
    have mul : a4.2.1 * 5 ≤ a4.2.1 * ((l.countP fun y => decide (y.2.1 ≥ a4.2.1) : Nat) : Int) := Int.mul_le_mul_of_nonneg_left (by omega) (by omega)
    have nn2 := sumN_nn i2
    have ew : w64 (lost + a4.2.1) = lost + a4.2.1 := by rw [w64_id] <;> omega
    have e : cut3 l lost all = (less3 a4.2.1 l, lost + a4.2.1, all, ()) := by
      unfold cut3
      rw [f1, ew]
    rw [e]
    refine ⟨topB_mk i1 i2 (by rw [i5]; omega) (by show 0 ≤ lost + a4.2.1; omega) ha0 ha (by show sumN (less3 a4.2.1 l) + 5 * (lost + a4.2.1) ≤ all; omega), rfl, by show lost ≤ lost + a4.2.1; omega, fun k => ?_⟩
    have := i6 k
    show cntK (less3 a4.2.1 l) k ≤ cntK l k ∧ cntK l k + lost ≤ cntK (less3 a4.2.1 l) k + (lost + a4.2.1)
    omega
theorem zAC {ps : List Knot} {lost all t : Int} (h : topB ps lost all = true) (ht : thingB t = true) (ha : all < 2000) :
    (topAdd ps lost all t).2 = true ∧ topB (topAdd ps lost all t).1.1 (topAdd ps lost all t).1.2.1 (topAdd ps lost all t).1.2.2.1 = true ∧ (topAdd ps lost all t).1.2.2.1 = all + 1 ∧ lost ≤ (topAdd ps lost all t).1.2.1 ∧
    ∀ k, cntK (topAdd ps lost all t).1.1 k ≤ cntK ps k + (if t = k then 1 else 0) ∧ cntK ps k + (if t = k then 1 else 0) + lost ≤ cntK (topAdd ps lost all t).1.1 k + (topAdd ps lost all t).1.2.1 := by
  obtain ⟨hs, hp, h4, l0, l1, a0, a1⟩ := zAu h
  have hsum := zAB h
  have tt := zjn ht
  have ew : w64 (all + 1) = all + 1 := by rw [w64_id] <;> omega
  obtain ⟨i1, i2, -, i4⟩ := zrt (m := 2000) (t := t) (n := 1) (p := -1) tt (by omega) (by omega) (by omega) hs hp (by omega) (fun y hy => by have := hp y hy; omega)
  have il := zgN t 1 ps false
  have is := zrB (t := t) (n := 1) hp (by omega) (by omega) (by omega)
  have e : topAdd ps lost all t = (cut3 (putP t 1 ps false) lost (all + 1), true) := by
    unfold topAdd
    simp only [h, ht, ha, decide_true, Bool.and_self, cond_true, ew]
  rw [e]
  obtain ⟨c1, c2, c3, c4⟩ := cut3_ok i1 i2 (by omega) (by omega) l0 (by omega) (by omega : all + 1 ≤ 2000) (by omega)
  exact ⟨rfl, c1, c2, c3, fun k => by have := c4 k; rw [i4 k] at this; exact this⟩
theorem zAD {ks : List Knot} {all t : Int} (h : okB ks all = true) (ht : thingB t = true) (ha : all < 2000) :
    (rankAdd ks all t).2 = true ∧ okB (rankAdd ks all t).1.1 (rankAdd ks all t).1.2.1 = true ∧ (rankAdd ks all t).1.2.1 = all + 1 ∧
    ∀ i, ksum (plo i) (rankAdd ks all t).1.1 ≤ ksum (plo i) ks + (if t ≤ i then 1 else 0) ∧ ksum (phi i) ks + (if t ≤ i then 1 else 0) ≤ ksum (phi i) (rankAdd ks all t).1.1 := by
  have tt := zjn ht
  have hB : addB ks all t = true := by
    unfold addB
    simp only [Bool.and_eq_true, decide_eq_true_eq]
    exact ⟨h, tt.1, tt.2, ha⟩
  obtain ⟨e1, e2⟩ := zzV hB
  have fa := zAi h
  obtain ⟨g1, g2, g3, g4, g5⟩ := zAm tt.1 tt.2
  obtain ⟨s1, s2, s3⟩ := zAj (ka := ks) (kb := [(64 + t, 1, ())]) (alla := all) (allb := 1) fa g1 g2 (by omega) g3 (by omega)
  have e : rankAdd ks all t = ((sumK ks [(64 + t, 1, ())] (all + 1), all + 1, ()), true) := by
    unfold rankAdd
    rw [hB, cond_true, e1, e2]
  rw [e]
  have lo := fun i => s2 (plo i) (zAk i)
  have hi := fun i => s3 (phi i) (zAl i)
  simp only [g4, g5] at lo hi
  generalize sumK ks [(64 + t, 1, ())] (all + 1) = K at s1 lo hi
  exact ⟨rfl, s1, rfl, fun i => ⟨lo i, hi i⟩⟩
theorem zAE {p : Int → Bool} : 0 < (fst6 p).length ↔ ∃ k, 0 ≤ k ∧ k < 64 ∧ p k = true := by
  unfold fst6
  rw [List.length_take]
  constructor
  · intro h
    have h' : 0 < (ascN p 64 0).length := by omega
    obtain ⟨k, hk⟩ := List.exists_mem_of_length_pos h'
    have := zgP.1 hk
    exact ⟨k, this.1, by omega, this.2.2⟩
  · rintro ⟨k, h0, h1, hp⟩
    have : k ∈ ascN p 64 0 := zgP.2 ⟨h0, by omega, hp⟩
    have := List.length_pos_of_mem this
    omega
theorem zrD {p : Int → Bool} {t : Int} (ht : thingB t = true) : fewAdd (fst6 p) t = (fst6 (fun k => p k || k == mark t), true) := by
  unfold fewAdd
  have m := zrp ht
  rw [zlY, ht, Bool.and_self, cond_true, zAr p m.1 m.2]
theorem zAF {l : List Int} {t : Int} (h : fewB l = true) (ht : thingB t = true) : (fewAdd l t).2 = true ∧ fewB (fewAdd l t).1 = true ∧ 0 < (fewAdd l t).1.length := by
  rw [zAn h, zrD ht]
  have m := zrp ht
  exact ⟨rfl, zlY _, zAE.2 ⟨mark t, m.1, by omega, by simp⟩⟩
theorem zAG {p q : Int → Bool} (h : ∀ k, 0 ≤ k → k < 64 → p k = q k) : fst6 p = fst6 q := by
  unfold fst6
  rw [zlX fun k h1 h2 => h k h1 (by omega)]
structure Form (s : SumD) : Prop where
  rough : roughB s.1 = true
  few : fewB s.2.1 = true
  top : topB s.2.2.1 s.2.2.2.1 s.2.2.2.2.1 = true
  rank : okB s.2.2.2.2.2.1 s.2.2.2.2.2.2.1 = true
  all : allR s.1 = s.2.2.2.2.1
  same : s.2.2.2.2.1 = s.2.2.2.2.2.2.1
  some : 0 < s.2.1.length ↔ 0 < s.2.2.2.2.1
theorem zrE {s : SumD} : sumBD s = true ↔ Form s := by
  unfold sumBD sumB
  simp only [Bool.and_eq_true, beq_iff_eq]
  constructor
  · rintro ⟨h1, h2, h3, h4, h5, h6, h7⟩
    have h8 := decide_eq_decide.1 h7
    exact ⟨h1, h2, h3, h4, h5, h6, by omega⟩
  · rintro ⟨h1, h2, h3, h4, h5, h6, h7⟩
    exact ⟨h1, h2, h3, h4, h5, h6, decide_eq_decide.2 (by omega)⟩
theorem Form.all_rng {s : SumD} (h : Form s) : 0 ≤ s.2.2.2.2.1 ∧ s.2.2.2.2.1 ≤ 2000 := (four h.top).2.2.2
theorem zAH : Form sumNew := zrE.1 zAh
abbrev pt (s : SumD) : List Knot := s.2.2.1
abbrev ptLost (s : SumD) : Int := s.2.2.2.1
abbrev allOf (s : SumD) : Int := s.2.2.2.2.1
abbrev kn (s : SumD) : List Knot := s.2.2.2.2.2.1
theorem zAI {s : SumD} {t : Int} (h : Form s) (ht : thingB t = true) (ha : allOf s < 2000) :
    (sumAdd s t).2 = true ∧ Form (sumAdd s t).1 ∧ allOf (sumAdd s t).1 = allOf s + 1 ∧ (sumAdd s t).1.1 = (roughAdd s.1 t 1).1 ∧ (sumAdd s t).1.2.1 = (fewAdd s.2.1 t).1 ∧
    (∀ i, i < 3 → ∀ j, cell (sumAdd s t).1.1 i j = cell s.1 i j + if pl i t = j then 1 else 0) ∧ ptLost s ≤ ptLost (sumAdd s t).1 ∧
    (∀ k, cntK (pt (sumAdd s t).1) k ≤ cntK (pt s) k + (if t = k then 1 else 0) ∧ cntK (pt s) k + (if t = k then 1 else 0) + ptLost s ≤ cntK (pt (sumAdd s t).1) k + ptLost (sumAdd s t).1) ∧
    ∀ i, ksum (plo i) (kn (sumAdd s t).1) ≤ ksum (plo i) (kn s) + (if t ≤ i then 1 else 0) ∧ ksum (phi i) (kn s) + (if t ≤ i then 1 else 0) ≤ ksum (phi i) (kn (sumAdd s t).1) := by
  have hr := h.all_rng
  have ha' : s.2.2.2.2.1 < 2000 := ha
  have r := zAA (n := 1) h.rough ht (by omega) (by have := h.all; show allR s.1 + 1 ≤ 2000; omega)
  have m := zAF h.few ht
  have p := zAC h.top ht ha
  have k := zAD h.rank ht (by have := h.same; omega)
  have hB := zrE.2 h
  have e : sumAdd s t = (((roughAdd s.1 t 1).1, (fewAdd s.2.1 t).1, (topAdd s.2.2.1 s.2.2.2.1 s.2.2.2.2.1 t).1.1, (topAdd s.2.2.1 s.2.2.2.1 s.2.2.2.2.1 t).1.2.1, (topAdd s.2.2.1 s.2.2.2.1 s.2.2.2.2.1 t).1.2.2.1, (rankAdd s.2.2.2.2.2.1 s.2.2.2.2.2.2.1 t).1.1, (rankAdd s.2.2.2.2.2.1 s.2.2.2.2.2.2.1 t).1.2.1, ()), true) := by
    unfold sumAdd
    simp only [hB, ht, show s.2.2.2.2.1 < 2000 from ha, decide_true, Bool.and_self, cond_true]
  rw [e]
  refine ⟨rfl, ⟨r.2.1, m.2.1, p.2.1, k.2.1, ?_, ?_, ?_⟩, p.2.2.1, rfl, rfl, r.2.2.2, p.2.2.2.1, p.2.2.2.2, k.2.2.2⟩
  · show allR (roughAdd s.1 t 1).1 = (topAdd s.2.2.1 s.2.2.2.1 s.2.2.2.2.1 t).1.2.2.1
    rw [r.2.2.1, p.2.2.1, h.all]
  · show (topAdd s.2.2.1 s.2.2.2.1 s.2.2.2.2.1 t).1.2.2.1 = (rankAdd s.2.2.2.2.2.1 s.2.2.2.2.2.2.1 t).1.2.1
    rw [p.2.2.1, k.2.2.1, h.same]
  · show 0 < (fewAdd s.2.1 t).1.length ↔ 0 < (topAdd s.2.2.1 s.2.2.2.1 s.2.2.2.2.1 t).1.2.2.1
    rw [p.2.2.1]
    exact ⟨fun _ => (by omega), fun _ => m.2.2⟩
theorem zAJ {s : SumD} {t : Int} (h : (sumBD s && (thingB t && decide (allOf s < 2000))) = false) : sumAdd s t = (noSum, false) := by
  unfold sumAdd
  rw [show (sumBD s && (thingB t && decide (s.2.2.2.2.1 < 2000))) = false from h]; rfl
structure Tells (l : List Int) (s : SumD) : Prop where
  form : Form s
  things : ∀ t ∈ l, thingB t = true
  all : allOf s = (l.length : Int)
  rough : ∀ i, i < 3 → ∀ j, cell s.1 i j = ((l.countP fun t => pl i t == j : Nat) : Int)
  few : s.2.1 = fst6 fun k => l.any fun t => mark t == k
  top : ∀ k, cntK (pt s) k ≤ ((l.count k : Nat) : Int) ∧ ((l.count k : Nat) : Int) ≤ cntK (pt s) k + ptLost s
  rank : ∀ i, ksum (plo i) (kn s) ≤ ((l.countP fun t => decide (t ≤ i) : Nat) : Int) ∧ ((l.countP fun t => decide (t ≤ i) : Nat) : Int) ≤ ksum (phi i) (kn s)
theorem rep8 (j : Nat) : (List.replicate 8 (0 : Int)).getD j 0 = 0 := by
  rw [List.getD_eq_getElem?_getD, List.getElem?_replicate]
  split <;> rfl
theorem zrF : Tells [] sumNew where
  form := zAH
  things := fun t ht => by cases ht
  all := rfl
  rough := fun i hi j => by
    match i, hi with
    | 0, _ => exact rep8 j
    | 1, _ => exact rep8 j
    | 2, _ => exact rep8 j
  few := by decide
  top := fun k => ⟨Int.le_refl _, Int.le_refl _⟩
  rank := fun i => ⟨Int.le_refl _, Int.le_refl _⟩
theorem zrG {l : List Int} {s : SumD} {t : Int} (h : Tells l s) (ht : thingB t = true) (hl : l.length < 2000) : (sumAdd s t).2 = true ∧ Tells (l ++ [t]) (sumAdd s t).1 := by
  have ha : allOf s < 2000 := by rw [h.all]; omega
  obtain ⟨h1, h2, h3, h4, h5, h6, h7, h8, h9⟩ := zAI h.form ht ha
  refine ⟨h1, h2, fun x hx => ?_, ?_, fun i hi j => ?_, ?_, fun k => ?_, fun i => ?_⟩
  · rcases List.mem_append.1 hx with hx | hx
    · exact h.things x hx
    · rcases List.mem_singleton.1 hx with rfl; exact ht
  · rw [h3, h.all, List.length_append, List.length_singleton]; omega
  · rw [h6 i hi j, h.rough i hi j, List.countP_append, List.countP_singleton]
    cases hc : pl i t == j
    · have : ¬ pl i t = j := by simpa using hc
      simp [this]
    · have : pl i t = j := by simpa using hc
      simp [this]
  · rw [h5, h.few, zrD ht]
    refine zAG fun k _ _ => ?_
    have : (k == mark t) = (mark t == k) := by rw [Bool.eq_iff_iff]; simp only [beq_iff_eq]; exact ⟨Eq.symm, Eq.symm⟩
    simp only [List.any_append, List.any_cons, List.any_nil, Bool.or_false, this]
  · have g1 := h.top k
    have g2 := h8 k
    rw [List.count_append, List.count_singleton]
    by_cases hk : t = k
    · subst hk
      simp only [if_true, beq_self_eq_true] at g2 ⊢
      omega
    · have e : (t == k) = false := by simpa using hk
      simp only [hk, e, if_false, Bool.false_eq_true] at g2 ⊢
      omega
  · have g1 := h.rank i
    have g2 := h9 i
    rw [List.countP_append, List.countP_singleton]
    by_cases hk : t ≤ i
    · simp only [hk, if_true, decide_true] at g2 ⊢
      omega
    · simp only [hk, if_false, decide_false, Bool.false_eq_true] at g2 ⊢
      omega
theorem zrH : ∀ (r l : List Int) (s : SumD), Tells l s → (sumOfGo r s).2 = true → Tells (l ++ r) (sumOfGo r s).1
  | [], l, s, h, _ => by rw [List.append_nil]; exact h
  | t :: r, l, s, h, h2 => by
    unfold sumOfGo at h2 ⊢
    cases ha : (sumAdd s t).2 with
    | false => rw [ha] at h2; cases h2
    | true =>
      rw [ha, cond_true] at h2
      simp only [cond_true]
      have hc : (sumBD s && (thingB t && decide (allOf s < 2000))) = true := by
        cases hc : (sumBD s && (thingB t && decide (allOf s < 2000)))
        · rw [zAJ hc] at ha; cases ha
        · rfl
      simp only [Bool.and_eq_true, decide_eq_true_eq] at hc
      have hl : l.length < 2000 := by have := h.all; have := hc.2.2; omega
      have := zrH r (l ++ [t]) _ (zrG h hc.2.1 hl).2 h2
      rw [List.append_assoc] at this
      exact this
theorem zAK {l : List Int} (h : (sumOf l).2 = true) : Tells l (sumOf l).1 := zrH l [] sumNew zrF h
theorem zrI : ∀ (r l : List Int) (s : SumD), Tells l s → (∀ t ∈ r, thingB t = true) → l.length + r.length ≤ 2000 → (sumOfGo r s).2 = true
  | [], l, s, h, _, _ => rfl
  | t :: r, l, s, h, h2, hl => by
    simp only [List.length_cons] at hl
    have a := zrG h (h2 t (List.mem_cons_self ..)) (by omega)
    unfold sumOfGo
    rw [a.1, cond_true]
    exact zrI r (l ++ [t]) _ a.2 (fun x hx => h2 x (List.mem_cons_of_mem _ hx)) (by rw [List.length_append, List.length_singleton]; omega)
theorem zl7 {l : List Int} (h : ∀ t ∈ l, thingB t = true) (hl : l.length ≤ 2000) : (sumOf l).2 = true := zrI l [] sumNew zrF h (by simpa using hl)
end Go.Proofs.Ytljojacnjjgceaa.Den
namespace Go.Proofs.Ytljojacnjjgceaa.Den
open Go Go.RowKit
theorem zrJ : ∀ (l : List Int) (s : SumD) (t : Int), (sumOfGo l s).2 = true → sumOfGo (l ++ [t]) s = cond (sumAdd (sumOfGo l s).1 t).2 ((sumAdd (sumOfGo l s).1 t).1, true) (noSum, false)
  | [], s, t, _ => rfl
  | x :: l, s, t, h => by
    show cond (sumAdd s x).2 (sumOfGo (l ++ [t]) (sumAdd s x).1) (noSum, false) = _
    have e : sumOfGo (x :: l) s = cond (sumAdd s x).2 (sumOfGo l (sumAdd s x).1) (noSum, false) := rfl
    rw [e] at h ⊢
    cases hx : (sumAdd s x).2 with
    | false => rw [hx] at h; exact absurd h (by simp)
    | true =>
      rw [hx] at h
      simp only [cond_true] at h ⊢
      exact zrJ l _ t h
theorem zrK {l : List Int} {t : Int} (h : ∀ x ∈ l, thingB x = true) (ht : thingB t = true) (hl : l.length < 2000) : sumAdd (sumOf l).1 t = ((sumOf (l ++ [t])).1, true) := by
  have h1 : (sumOf l).2 = true := zl7 h (by omega)
  have h2 : (sumOf (l ++ [t])).2 = true := zl7 (fun x hx => by
    rcases List.mem_append.1 hx with hx | hx
    · exact h x hx
    · rw [List.mem_singleton.1 hx]; exact ht) (by simp; omega)
  have h3 := zrJ l sumNew t h1
  have h4 : sumOf (l ++ [t]) = cond (sumAdd (sumOf l).1 t).2 ((sumAdd (sumOf l).1 t).1, true) (noSum, false) := h3
  cases hx : (sumAdd (sumOf l).1 t).2 with
  | false => rw [h4, hx] at h2; exact absurd h2 (by simp)
  | true =>
    rw [h4, hx]
    exact Prod.ext rfl hx
end Go.Proofs.Ytljojacnjjgceaa.Den
namespace Go.Proofs.Ytljojacnjjgceaa.Den
open Go Go.RowKit
abbrev zbS := Option (((List EY) × Unit) × Unit)
def zfd (fuel : Nat) : Tab := Tab.of [(46, (zhz fuel).te)] []
def znT : List Norm := [{ live := [4, 0, 3], fix := [(3, none, KE, true)] }]
noncomputable def zhB : C := irOf Try.prog Try.f39 [23] znT []
def zfe : List (Nat × Option (Nat × Bool)) := [(2, none)]
abbrev zuG : Sx := .grp (.dat (Kd.list KE) .nil) .nil
abbrev zuH : Sx := .grp (.dat (Kd.list KE) .nil) .nil
abbrev zbj : LF := .pure zuG zuH false
abbrev zcF := (Int) × (List EY) × (List EY)
def znU (v : zcF) : Env × Heap := ([(4, SV.int .i64 v.1), (0, SV.es KE v.2.1), (3, SV.own 0)], [Blk.arr KE v.2.2 0])
def zff (fuel : Nat) (g0 : zcF → zbS) (v : zcF) : zbS :=
 cond (decide (v.1 < (zz (List.length v.2.1))))
 (tst (decide (0 ≤ v.1)) <|
 tst (decide (v.1 < (zz (List.length v.2.1)))) <|
 Option.bind (zfb fuel (((List.getD v.2.1 (Int.toNat v.1) (0, (0, (0, ((([], ()), (([], ()), (([], (0, (0, ()))), (([], (0, ())), ())))), ()))))).2.2.2.1.1.1, (List.getD v.2.1 (Int.toNat v.1) (0, (0, (0, ((([], ()), (([], ()), (([], (0, (0, ()))), (([], (0, ())), ())))), ()))))).2.2.2.1.2.1.1, (List.getD v.2.1 (Int.toNat v.1) (0, (0, (0, ((([], ()), (([], ()), (([], (0, (0, ()))), (([], (0, ())), ())))), ()))))).2.2.2.1.2.2.1.1, (List.getD v.2.1 (Int.toNat v.1) (0, (0, (0, ((([], ()), (([], ()), (([], (0, (0, ()))), (([], (0, ())), ())))), ()))))).2.2.2.1.2.2.1.2.1, (List.getD v.2.1 (Int.toNat v.1) (0, (0, (0, ((([], ()), (([], ()), (([], (0, (0, ()))), (([], (0, ())), ())))), ()))))).2.2.2.1.2.2.1.2.2.1, (List.getD v.2.1 (Int.toNat v.1) (0, (0, (0, ((([], ()), (([], ()), (([], (0, (0, ()))), (([], (0, ())), ())))), ()))))).2.2.2.1.2.2.2.1.1, (List.getD v.2.1 (Int.toNat v.1) (0, (0, (0, ((([], ()), (([], ()), (([], (0, (0, ()))), (([], (0, ())), ())))), ()))))).2.2.2.1.2.2.2.1.2.1, ()), ())) fun y_2 =>
 tst (decide (List.length v.2.2 + 1 < LIM)) <|
 g0 (w64 (v.1 + (1 : Int)), v.2.1, v.2.2 ++ [((List.getD v.2.1 (Int.toNat v.1) (0, (0, (0, ((([], ()), (([], ()), (([], (0, (0, ()))), (([], (0, ())), ())))), ()))))).1, (List.getD v.2.1 (Int.toNat v.1) (0, (0, (0, ((([], ()), (([], ()), (([], (0, (0, ()))), (([], (0, ())), ())))), ()))))).2.1, (List.getD v.2.1 (Int.toNat v.1) (0, (0, (0, ((([], ()), (([], ()), (([], (0, (0, ()))), (([], (0, ())), ())))), ()))))).2.2.1, ((y_2.1.1, ()), (y_2.1.2.1, ()), (y_2.1.2.2.1, y_2.1.2.2.2.1, y_2.1.2.2.2.2.1, ()), (y_2.1.2.2.2.2.2.1, y_2.1.2.2.2.2.2.2.1, ()), ()), ())]))
 (some (((v.2.2, ()), ())))
def zhC (fuel : Nat) (g0 : zcF → zbS) : zcF → zbS := zff fuel g0
theorem zuI (fuel : Nat) (G) : zhB.lp (zfd fuel) 0 fuel G (endX zfe zbj) 0 znU = iter (zhC fuel) fuel := C.lp_iter fun g v => by kernel_rfl
def znV (fuel : Nat) (X0 : zcF → zbS) (x0 : List EY) : zbS :=
 X0 ((0 : Int), x0, [])
def zhD (fuel : Nat) (z : (((List EY) × Unit) × Unit)) : zbS := znV fuel (iter (zhC fuel) fuel) z.1.1
theorem zuJ (fuel : Nat) (xa : zbj.rt.T) (xd : zbj.D.T) : zbj.go (zfd fuel) fuel zhB zfe xa xd = zhD fuel (zbj.xb (xa, xd)) :=
  (show zbj.go (zfd fuel) fuel zhB zfe xa xd = znV fuel (zhB.lp (zfd fuel) 0 fuel (fun _ _ _ => none) (endX zfe zbj) 0 znU) xd.1.1 by kernel_rfl).trans (by rw [zuI]; rfl)
abbrev zka (fuel : Nat) : LE := ⟨zbj, zhD fuel⟩
theorem zuK (fuel : Nat) : EntryOK Try.prog 39 (zka fuel).te := okF (T := zfd fuel) (fn := Try.f39) (le := zka fuel) (frz := [23]) (ann := znT) (cuts := []) (rv := zfe) (TabOK.of (entCons (znL fuel) entNil) (methNil)) mixed (by kernel_rfl) (by kernel_rfl) (by kernel_rfl) (fun _ => rfl) (fun _ => rfl) (fun xa xd y h => ⟨fuel, (zuJ fuel xa xd).trans h⟩)
abbrev zbT := Option ((List EY) × (((List EY) × Unit) × Unit))
def zfg (fuel : Nat) : Tab := Tab.of [(46, (zhz fuel).te)] []
def znW : List Norm := [{ live := [4, 0, 3], fix := [(3, none, KE, true)] }]
noncomputable def zhE : C := irOf Try.prog Try.f39 [23] znW []
def zfh : List (Nat × Option (Nat × Bool)) := [(2, none)]
abbrev zuL : Sx := .nil
abbrev zuM : Sx := .grp (.own 0 KE .nil) .nil
abbrev zbk : LF := .slc KE zuL zuM false
abbrev zcG := (Int) × (List EY) × (List EY)
def znX (v : zcG) : Env × Heap := ([(4, SV.int .i64 v.1), (0, SV.own 0), (3, SV.own 1)], [Blk.arr KE v.2.1 0, Blk.arr KE v.2.2 0])
def zfi (fuel : Nat) (g0 : zcG → zbT) (v : zcG) : zbT :=
 cond (decide (v.1 < (zz (List.length v.2.1))))
 (tst (decide (0 ≤ v.1)) <|
 tst (decide (v.1 < (zz (List.length v.2.1)))) <|
 tst (decide (Int.toNat v.1 < List.length v.2.1)) <|
 Option.bind (zfb fuel (((List.getD v.2.1 (Int.toNat v.1) (0, (0, (0, ((([], ()), (([], ()), (([], (0, (0, ()))), (([], (0, ())), ())))), ()))))).2.2.2.1.1.1, (List.getD v.2.1 (Int.toNat v.1) (0, (0, (0, ((([], ()), (([], ()), (([], (0, (0, ()))), (([], (0, ())), ())))), ()))))).2.2.2.1.2.1.1, (List.getD v.2.1 (Int.toNat v.1) (0, (0, (0, ((([], ()), (([], ()), (([], (0, (0, ()))), (([], (0, ())), ())))), ()))))).2.2.2.1.2.2.1.1, (List.getD v.2.1 (Int.toNat v.1) (0, (0, (0, ((([], ()), (([], ()), (([], (0, (0, ()))), (([], (0, ())), ())))), ()))))).2.2.2.1.2.2.1.2.1, (List.getD v.2.1 (Int.toNat v.1) (0, (0, (0, ((([], ()), (([], ()), (([], (0, (0, ()))), (([], (0, ())), ())))), ()))))).2.2.2.1.2.2.1.2.2.1, (List.getD v.2.1 (Int.toNat v.1) (0, (0, (0, ((([], ()), (([], ()), (([], (0, (0, ()))), (([], (0, ())), ())))), ()))))).2.2.2.1.2.2.2.1.1, (List.getD v.2.1 (Int.toNat v.1) (0, (0, (0, ((([], ()), (([], ()), (([], (0, (0, ()))), (([], (0, ())), ())))), ()))))).2.2.2.1.2.2.2.1.2.1, ()), ())) fun y_2 =>
 tst (decide (List.length v.2.2 + 1 < LIM)) <|
 g0 (w64 (v.1 + (1 : Int)), v.2.1, v.2.2 ++ [((List.getD v.2.1 (Int.toNat v.1) (0, (0, (0, ((([], ()), (([], ()), (([], (0, (0, ()))), (([], (0, ())), ())))), ()))))).1, (List.getD v.2.1 (Int.toNat v.1) (0, (0, (0, ((([], ()), (([], ()), (([], (0, (0, ()))), (([], (0, ())), ())))), ()))))).2.1, (List.getD v.2.1 (Int.toNat v.1) (0, (0, (0, ((([], ()), (([], ()), (([], (0, (0, ()))), (([], (0, ())), ())))), ()))))).2.2.1, ((y_2.1.1, ()), (y_2.1.2.1, ()), (y_2.1.2.2.1, y_2.1.2.2.2.1, y_2.1.2.2.2.2.1, ()), (y_2.1.2.2.2.2.2.1, y_2.1.2.2.2.2.2.2.1, ()), ()), ())]))
 (some ((v.2.1, (v.2.2, ()), ())))
def zhF (fuel : Nat) (g0 : zcG → zbT) : zcG → zbT := zfi fuel g0
theorem zuN (fuel : Nat) (G) : zhE.lp (zfg fuel) 1 fuel G (endX zfh zbk) 0 znX = iter (zhF fuel) fuel := C.lp_iter fun g v => by kernel_rfl
def znY (fuel : Nat) (X0 : zcG → zbT) (d0 : List EY) : zbT :=
 X0 ((0 : Int), d0, [])
def zhG (fuel : Nat) (z : ((List EY) × (Unit × Unit))) : zbT := znY fuel (iter (zhF fuel) fuel) z.1
theorem zuO (fuel : Nat) (xa : zbk.rt.T) (xd : zbk.D.T) : zbk.go (zfg fuel) fuel zhE zfh xa xd = zhG fuel (zbk.xb (xa, xd)) :=
  (show zbk.go (zfg fuel) fuel zhE zfh xa xd = znY fuel (zhE.lp (zfg fuel) 1 fuel (fun _ _ _ => none) (endX zfh zbk) 0 znX) xa by kernel_rfl).trans (by rw [zuN]; rfl)
abbrev zkb (fuel : Nat) : LE := ⟨zbk, zhG fuel⟩
theorem zuP (fuel : Nat) : EntryOK Try.prog 39 (zkb fuel).te := okF (T := zfg fuel) (fn := Try.f39) (le := zkb fuel) (frz := [23]) (ann := znW) (cuts := []) (rv := zfh) (TabOK.of (entCons (znL fuel) entNil) (methNil)) mixed (by kernel_rfl) (by kernel_rfl) (by kernel_rfl) (fun _ => rfl) (fun _ => rfl) (fun xa xd y h => ⟨fuel, (zuO fuel xa xd).trans h⟩)
abbrev zbU := Option (((List EY) × Unit) × Unit)
def zfj (fuel : Nat) : Tab := Tab.of [(46, (zj9 fuel).te)] []
def znZ : List Norm := [{ live := [4, 0, 3], fix := [], tr := [(3, none, KE, 2)] }]
noncomputable def zhH : C := irOf Try.prog Try.f39 [3000024] znZ []
def zfk : List (Nat × Option (Nat × Bool)) := [(2, none)]
abbrev zuQ : Sx := .grp (.dat (Kd.list KE) .nil) .nil
abbrev zuR : Sx := .grp (.own 2 KE .nil) .nil
abbrev zbl : LF := .pure zuQ zuR true
abbrev zcH := (Int) × (List EY) × (List EY)
def zn0 (v : zcH) : Env × Heap := ([(4, SV.int .i64 v.1), (0, SV.es KE v.2.1), (3, SV.own 0)], [Blk.tree 2 KE v.2.2 none])
def zfl (fuel : Nat) (g0 : zcH → zbU) (v : zcH) : zbU :=
 cond (decide (v.1 < (zz (List.length v.2.1))))
 (tst (decide (0 ≤ v.1)) <|
 tst (decide (v.1 < (zz (List.length v.2.1)))) <|
 Option.bind (zhA fuel (((List.getD v.2.1 (Int.toNat v.1) (0, (0, (0, ((([], ()), (([], ()), (([], (0, (0, ()))), (([], (0, ())), ())))), ()))))).2.2.2.1.1.1, (List.getD v.2.1 (Int.toNat v.1) (0, (0, (0, ((([], ()), (([], ()), (([], (0, (0, ()))), (([], (0, ())), ())))), ()))))).2.2.2.1.2.1.1, (List.getD v.2.1 (Int.toNat v.1) (0, (0, (0, ((([], ()), (([], ()), (([], (0, (0, ()))), (([], (0, ())), ())))), ()))))).2.2.2.1.2.2.1.1, (List.getD v.2.1 (Int.toNat v.1) (0, (0, (0, ((([], ()), (([], ()), (([], (0, (0, ()))), (([], (0, ())), ())))), ()))))).2.2.2.1.2.2.1.2.1, (List.getD v.2.1 (Int.toNat v.1) (0, (0, (0, ((([], ()), (([], ()), (([], (0, (0, ()))), (([], (0, ())), ())))), ()))))).2.2.2.1.2.2.1.2.2.1, (List.getD v.2.1 (Int.toNat v.1) (0, (0, (0, ((([], ()), (([], ()), (([], (0, (0, ()))), (([], (0, ())), ())))), ()))))).2.2.2.1.2.2.2.1.1, (List.getD v.2.1 (Int.toNat v.1) (0, (0, (0, ((([], ()), (([], ()), (([], (0, (0, ()))), (([], (0, ())), ())))), ()))))).2.2.2.1.2.2.2.1.2.1, ()), ())) fun y_2 =>
 tst (decide (List.length v.2.2 + List.length [((List.getD v.2.1 (Int.toNat v.1) (0, (0, (0, ((([], ()), (([], ()), (([], (0, (0, ()))), (([], (0, ())), ())))), ()))))).1, (List.getD v.2.1 (Int.toNat v.1) (0, (0, (0, ((([], ()), (([], ()), (([], (0, (0, ()))), (([], (0, ())), ())))), ()))))).2.1, (List.getD v.2.1 (Int.toNat v.1) (0, (0, (0, ((([], ()), (([], ()), (([], (0, (0, ()))), (([], (0, ())), ())))), ()))))).2.2.1, ((y_2.1.1, ()), (y_2.1.2.1, ()), (y_2.1.2.2.1, y_2.1.2.2.2.1, y_2.1.2.2.2.2.1, ()), (y_2.1.2.2.2.2.2.1, y_2.1.2.2.2.2.2.2.1, ()), ()), ())] < LIM)) <|
 g0 (w64 (v.1 + (1 : Int)), v.2.1, v.2.2 ++ [((List.getD v.2.1 (Int.toNat v.1) (0, (0, (0, ((([], ()), (([], ()), (([], (0, (0, ()))), (([], (0, ())), ())))), ()))))).1, (List.getD v.2.1 (Int.toNat v.1) (0, (0, (0, ((([], ()), (([], ()), (([], (0, (0, ()))), (([], (0, ())), ())))), ()))))).2.1, (List.getD v.2.1 (Int.toNat v.1) (0, (0, (0, ((([], ()), (([], ()), (([], (0, (0, ()))), (([], (0, ())), ())))), ()))))).2.2.1, ((y_2.1.1, ()), (y_2.1.2.1, ()), (y_2.1.2.2.1, y_2.1.2.2.2.1, y_2.1.2.2.2.2.1, ()), (y_2.1.2.2.2.2.2.1, y_2.1.2.2.2.2.2.2.1, ()), ()), ())]))
 (some (((v.2.2, ()), ())))
def zhI (fuel : Nat) (g0 : zcH → zbU) : zcH → zbU := zfl fuel g0
theorem zuS (fuel : Nat) (G) : zhH.lp (zfj fuel) 0 fuel G (endX zfk zbl) 0 zn0 = iter (zhI fuel) fuel := C.lp_iter fun g v => by kernel_rfl
def zn1 (fuel : Nat) (X0 : zcH → zbU) (x0 : List EY) : zbU :=
 X0 ((0 : Int), x0, [])
def zfm (fuel : Nat) (z : (((List EY) × Unit) × Unit)) : zbU := zn1 fuel (iter (zhI fuel) fuel) z.1.1
theorem zuT (fuel : Nat) (xa : zbl.rt.T) (xd : zbl.D.T) : zbl.go (zfj fuel) fuel zhH zfk xa xd = zfm fuel (zbl.xb (xa, xd)) :=
  (show zbl.go (zfj fuel) fuel zhH zfk xa xd = zn1 fuel (zhH.lp (zfj fuel) 0 fuel (fun _ _ _ => none) (endX zfk zbl) 0 zn0) xd.1.1 by kernel_rfl).trans (by rw [zuS]; rfl)
abbrev zkc (fuel : Nat) : LE := ⟨zbl, zfm fuel⟩
theorem zuU (fuel : Nat) : EntryOK Try.prog 39 (zkc fuel).te := okF (T := zfj fuel) (fn := Try.f39) (le := zkc fuel) (frz := [3000024]) (ann := znZ) (cuts := []) (rv := zfk) (TabOK.of (entCons (zuF fuel) entNil) (methNil)) mixed (by kernel_rfl) (by kernel_rfl) (by kernel_rfl) (fun _ => rfl) (fun _ => rfl) (fun xa xd y h => ⟨fuel, (zuT fuel xa xd).trans h⟩)
def zn2 (fuel : Nat) : Tab := Tab.of [] []
def zn3 : List Norm := []
noncomputable def zuV : C := irOf Try.prog Try.f72 [] zn3 []
def zn4 : List (Nat × Option (Nat × Bool)) := [(4, none)]
abbrev zuW : Sx := .agg (.dat I6 (.dat I6 (.dat I6 (.dat (Kd.list (Kd.list I6)) (.dat (Kd.list I6) (.dat (Kd.list KP) (.dat I6 (.dat I6 (.dat (Kd.list KP) (.dat I6 .nil)))))))))) (.agg (.dat I6 (.dat I6 (.dat I6 (.dat (Kd.list (Kd.list I6)) (.dat (Kd.list I6) (.dat (Kd.list KP) (.dat I6 (.dat I6 (.dat (Kd.list KP) (.dat I6 .nil)))))))))) .nil)
abbrev zuX : Sx := .grp (.dat Kd.bool .nil) .nil
abbrev zfn : LF := .pure zuW zuX true
def zuY (fuel : Nat) (x0 : Int) (x1 : Int) (x2 : Int) (x3 : List (List Int)) (x4 : List Int) (x5 : LP) (x6 : Int) (x7 : Int) (x8 : LP) (x9 : Int) (x10 : Int) (x11 : Int) (x12 : Int) (x13 : List (List Int)) (x14 : List Int) (x15 : LP) (x16 : Int) (x17 : Int) (x18 : LP) (x19 : Int) : Option ((Bool × Unit) × Unit) :=
 cond (decide (x1 > x11))
 (some (((true, ()), ())))
 (cond (x1 == x11)
 (some (((decide (x2 > x12), ()), ())))
 (some (((false, ()), ()))))
def zfo (fuel : Nat) (z : ((Int × (Int × (Int × SumY))) × ((Int × (Int × (Int × SumY))) × Unit))) : Option ((Bool × Unit) × Unit) := zuY fuel z.1.1 z.1.2.1 z.1.2.2.1 z.1.2.2.2.1 z.1.2.2.2.2.1 z.1.2.2.2.2.2.1 z.1.2.2.2.2.2.2.1 z.1.2.2.2.2.2.2.2.1 z.1.2.2.2.2.2.2.2.2.1 z.1.2.2.2.2.2.2.2.2.2.1 z.2.1.1 z.2.1.2.1 z.2.1.2.2.1 z.2.1.2.2.2.1 z.2.1.2.2.2.2.1 z.2.1.2.2.2.2.2.1 z.2.1.2.2.2.2.2.2.1 z.2.1.2.2.2.2.2.2.2.1 z.2.1.2.2.2.2.2.2.2.2.1 z.2.1.2.2.2.2.2.2.2.2.2.1
theorem zuZ (fuel : Nat) (xa : zfn.rt.T) (xd : zfn.D.T) : zfn.go (zn2 fuel) fuel zuV zn4 xa xd = zfo fuel (zfn.xb (xa, xd)) := by kernel_rfl
abbrev zhJ (fuel : Nat) : LE := ⟨zfn, zfo fuel⟩
theorem zn5 (fuel : Nat) : EntryOK Try.prog 72 (zhJ fuel).te := okF (T := zn2 fuel) (fn := Try.f72) (le := zhJ fuel) (frz := []) (ann := zn3) (cuts := []) (rv := zn4) (TabOK.of (entNil) (methNil)) mixed (by kernel_rfl) (by kernel_rfl) (by kernel_rfl) (fun _ => rfl) (fun _ => rfl) (fun xa xd y h => ⟨fuel, (zuZ fuel xa xd).trans h⟩)
abbrev zbV := Option (((List EY) × Unit) × Unit)
def zfp (fuel : Nat) : Tab := Tab.of [(72, (zhJ fuel).te)] []
def zn6 : List Norm := [{ live := [7, 0, 6, 3, 5], fix := [(5, none, KE, true)] }]
noncomputable def zhK : C := irOf Try.prog Try.f57 [] zn6 []
def zfq : List (Nat × Option (Nat × Bool)) := [(4, none)]
abbrev zu0 : Sx := .grp (.dat (Kd.list KE) .nil) (.agg (.dat I6 (.dat I6 (.dat I6 (.dat (Kd.list (Kd.list I6)) (.dat (Kd.list I6) (.dat (Kd.list KP) (.dat I6 (.dat I6 (.dat (Kd.list KP) (.dat I6 .nil)))))))))) .nil)
abbrev zu1 : Sx := .grp (.own 0 KE .nil) .nil
abbrev zbm : LF := .pure zu0 zu1 false
abbrev zcI := (Int) × (List EY) × (Bool) × (Int) × (Int) × (Int) × (List (List Int)) × (List Int) × LP × (Int) × (Int) × LP × (Int) × (List EY)
def zn7 (v : zcI) : Env × Heap := ([(7, SV.int .i64 v.1), (0, SV.es KE v.2.1), (6, SV.bool v.2.2.1), (3, SV.ptr 0 0), (5, SV.own 1)], [Blk.cells [SV.int .i64 v.2.2.2.1, SV.int .i64 v.2.2.2.2.1, SV.int .i64 v.2.2.2.2.2.1, SV.es (Kd.list I6) v.2.2.2.2.2.2.1, SV.es I6 v.2.2.2.2.2.2.2.1, SV.es KP v.2.2.2.2.2.2.2.2.1, SV.int .i64 v.2.2.2.2.2.2.2.2.2.1, SV.int .i64 v.2.2.2.2.2.2.2.2.2.2.1, SV.es KP v.2.2.2.2.2.2.2.2.2.2.2.1, SV.int .i64 v.2.2.2.2.2.2.2.2.2.2.2.2.1] 0 10, Blk.arr KE v.2.2.2.2.2.2.2.2.2.2.2.2.2 0])
def zaM (fuel : Nat) (g0 : zcI → zbV) (v : zcI) : zbV :=
 cond (decide (v.1 < (zz (List.length v.2.1))))
 (cond (!v.2.2.1)
 (tst (decide (0 ≤ v.1)) <|
 tst (decide (v.1 < (zz (List.length v.2.1)))) <|
 cond (decide ((List.getD v.2.1 (Int.toNat v.1) (0, (0, (0, ((([], ()), (([], ()), (([], (0, (0, ()))), (([], (0, ())), ())))), ()))))).1 ≥ v.2.2.2.1))
 (tst (decide (0 ≤ v.1)) <|
 tst (decide (v.1 < (zz (List.length v.2.1)))) <|
 cond ((List.getD v.2.1 (Int.toNat v.1) (0, (0, (0, ((([], ()), (([], ()), (([], (0, (0, ()))), (([], (0, ())), ())))), ()))))).1 == v.2.2.2.1)
 (tst (decide (0 ≤ v.1)) <|
 tst (decide (v.1 < (zz (List.length v.2.1)))) <|
 Option.bind (zfo fuel ((v.2.2.2.1, v.2.2.2.2.1, v.2.2.2.2.2.1, v.2.2.2.2.2.2.1, v.2.2.2.2.2.2.2.1, v.2.2.2.2.2.2.2.2.1, v.2.2.2.2.2.2.2.2.2.1, v.2.2.2.2.2.2.2.2.2.2.1, v.2.2.2.2.2.2.2.2.2.2.2.1, v.2.2.2.2.2.2.2.2.2.2.2.2.1, ()), ((List.getD v.2.1 (Int.toNat v.1) (0, (0, (0, ((([], ()), (([], ()), (([], (0, (0, ()))), (([], (0, ())), ())))), ()))))).1, (List.getD v.2.1 (Int.toNat v.1) (0, (0, (0, ((([], ()), (([], ()), (([], (0, (0, ()))), (([], (0, ())), ())))), ()))))).2.1, (List.getD v.2.1 (Int.toNat v.1) (0, (0, (0, ((([], ()), (([], ()), (([], (0, (0, ()))), (([], (0, ())), ())))), ()))))).2.2.1, (List.getD v.2.1 (Int.toNat v.1) (0, (0, (0, ((([], ()), (([], ()), (([], (0, (0, ()))), (([], (0, ())), ())))), ()))))).2.2.2.1.1.1, (List.getD v.2.1 (Int.toNat v.1) (0, (0, (0, ((([], ()), (([], ()), (([], (0, (0, ()))), (([], (0, ())), ())))), ()))))).2.2.2.1.2.1.1, (List.getD v.2.1 (Int.toNat v.1) (0, (0, (0, ((([], ()), (([], ()), (([], (0, (0, ()))), (([], (0, ())), ())))), ()))))).2.2.2.1.2.2.1.1, (List.getD v.2.1 (Int.toNat v.1) (0, (0, (0, ((([], ()), (([], ()), (([], (0, (0, ()))), (([], (0, ())), ())))), ()))))).2.2.2.1.2.2.1.2.1, (List.getD v.2.1 (Int.toNat v.1) (0, (0, (0, ((([], ()), (([], ()), (([], (0, (0, ()))), (([], (0, ())), ())))), ()))))).2.2.2.1.2.2.1.2.2.1, (List.getD v.2.1 (Int.toNat v.1) (0, (0, (0, ((([], ()), (([], ()), (([], (0, (0, ()))), (([], (0, ())), ())))), ()))))).2.2.2.1.2.2.2.1.1, (List.getD v.2.1 (Int.toNat v.1) (0, (0, (0, ((([], ()), (([], ()), (([], (0, (0, ()))), (([], (0, ())), ())))), ()))))).2.2.2.1.2.2.2.1.2.1, ()), ())) fun y_5 =>
 cond (y_5.1.1)
 (tst (decide (List.length v.2.2.2.2.2.2.2.2.2.2.2.2.2 + 1 < LIM)) <|
 g0 (w64 (v.1 + (1 : Int)), v.2.1, true, v.2.2.2.1, v.2.2.2.2.1, v.2.2.2.2.2.1, v.2.2.2.2.2.2.1, v.2.2.2.2.2.2.2.1, v.2.2.2.2.2.2.2.2.1, v.2.2.2.2.2.2.2.2.2.1, v.2.2.2.2.2.2.2.2.2.2.1, v.2.2.2.2.2.2.2.2.2.2.2.1, v.2.2.2.2.2.2.2.2.2.2.2.2.1, v.2.2.2.2.2.2.2.2.2.2.2.2.2 ++ [(v.2.2.2.1, v.2.2.2.2.1, v.2.2.2.2.2.1, ((v.2.2.2.2.2.2.1, ()), (v.2.2.2.2.2.2.2.1, ()), (v.2.2.2.2.2.2.2.2.1, v.2.2.2.2.2.2.2.2.2.1, v.2.2.2.2.2.2.2.2.2.2.1, ()), (v.2.2.2.2.2.2.2.2.2.2.2.1, v.2.2.2.2.2.2.2.2.2.2.2.2.1, ()), ()), ())]))
 (tst (decide (0 ≤ v.1)) <|
 tst (decide (v.1 < (zz (List.length v.2.1)))) <|
 tst (decide (List.length v.2.2.2.2.2.2.2.2.2.2.2.2.2 + 1 < LIM)) <|
 g0 (w64 (v.1 + (1 : Int)), v.2.1, true, v.2.2.2.1, v.2.2.2.2.1, v.2.2.2.2.2.1, v.2.2.2.2.2.2.1, v.2.2.2.2.2.2.2.1, v.2.2.2.2.2.2.2.2.1, v.2.2.2.2.2.2.2.2.2.1, v.2.2.2.2.2.2.2.2.2.2.1, v.2.2.2.2.2.2.2.2.2.2.2.1, v.2.2.2.2.2.2.2.2.2.2.2.2.1, v.2.2.2.2.2.2.2.2.2.2.2.2.2 ++ [((List.getD v.2.1 (Int.toNat v.1) (0, (0, (0, ((([], ()), (([], ()), (([], (0, (0, ()))), (([], (0, ())), ())))), ()))))).1, (List.getD v.2.1 (Int.toNat v.1) (0, (0, (0, ((([], ()), (([], ()), (([], (0, (0, ()))), (([], (0, ())), ())))), ()))))).2.1, (List.getD v.2.1 (Int.toNat v.1) (0, (0, (0, ((([], ()), (([], ()), (([], (0, (0, ()))), (([], (0, ())), ())))), ()))))).2.2.1, (((List.getD v.2.1 (Int.toNat v.1) (0, (0, (0, ((([], ()), (([], ()), (([], (0, (0, ()))), (([], (0, ())), ())))), ()))))).2.2.2.1.1.1, ()), ((List.getD v.2.1 (Int.toNat v.1) (0, (0, (0, ((([], ()), (([], ()), (([], (0, (0, ()))), (([], (0, ())), ())))), ()))))).2.2.2.1.2.1.1, ()), ((List.getD v.2.1 (Int.toNat v.1) (0, (0, (0, ((([], ()), (([], ()), (([], (0, (0, ()))), (([], (0, ())), ())))), ()))))).2.2.2.1.2.2.1.1, (List.getD v.2.1 (Int.toNat v.1) (0, (0, (0, ((([], ()), (([], ()), (([], (0, (0, ()))), (([], (0, ())), ())))), ()))))).2.2.2.1.2.2.1.2.1, (List.getD v.2.1 (Int.toNat v.1) (0, (0, (0, ((([], ()), (([], ()), (([], (0, (0, ()))), (([], (0, ())), ())))), ()))))).2.2.2.1.2.2.1.2.2.1, ()), ((List.getD v.2.1 (Int.toNat v.1) (0, (0, (0, ((([], ()), (([], ()), (([], (0, (0, ()))), (([], (0, ())), ())))), ()))))).2.2.2.1.2.2.2.1.1, (List.getD v.2.1 (Int.toNat v.1) (0, (0, (0, ((([], ()), (([], ()), (([], (0, (0, ()))), (([], (0, ())), ())))), ()))))).2.2.2.1.2.2.2.1.2.1, ()), ()), ())])))
 (tst (decide (List.length v.2.2.2.2.2.2.2.2.2.2.2.2.2 + 1 < LIM)) <|
 tst (decide (0 ≤ v.1)) <|
 tst (decide (v.1 < (zz (List.length v.2.1)))) <|
 tst (decide (List.length (v.2.2.2.2.2.2.2.2.2.2.2.2.2 ++ [(v.2.2.2.1, v.2.2.2.2.1, v.2.2.2.2.2.1, ((v.2.2.2.2.2.2.1, ()), (v.2.2.2.2.2.2.2.1, ()), (v.2.2.2.2.2.2.2.2.1, v.2.2.2.2.2.2.2.2.2.1, v.2.2.2.2.2.2.2.2.2.2.1, ()), (v.2.2.2.2.2.2.2.2.2.2.2.1, v.2.2.2.2.2.2.2.2.2.2.2.2.1, ()), ()), ())]) + 1 < LIM)) <|
 g0 (w64 (v.1 + (1 : Int)), v.2.1, true, v.2.2.2.1, v.2.2.2.2.1, v.2.2.2.2.2.1, v.2.2.2.2.2.2.1, v.2.2.2.2.2.2.2.1, v.2.2.2.2.2.2.2.2.1, v.2.2.2.2.2.2.2.2.2.1, v.2.2.2.2.2.2.2.2.2.2.1, v.2.2.2.2.2.2.2.2.2.2.2.1, v.2.2.2.2.2.2.2.2.2.2.2.2.1, v.2.2.2.2.2.2.2.2.2.2.2.2.2 ++ [(v.2.2.2.1, v.2.2.2.2.1, v.2.2.2.2.2.1, ((v.2.2.2.2.2.2.1, ()), (v.2.2.2.2.2.2.2.1, ()), (v.2.2.2.2.2.2.2.2.1, v.2.2.2.2.2.2.2.2.2.1, v.2.2.2.2.2.2.2.2.2.2.1, ()), (v.2.2.2.2.2.2.2.2.2.2.2.1, v.2.2.2.2.2.2.2.2.2.2.2.2.1, ()), ()), ())] ++ [((List.getD v.2.1 (Int.toNat v.1) (0, (0, (0, ((([], ()), (([], ()), (([], (0, (0, ()))), (([], (0, ())), ())))), ()))))).1, (List.getD v.2.1 (Int.toNat v.1) (0, (0, (0, ((([], ()), (([], ()), (([], (0, (0, ()))), (([], (0, ())), ())))), ()))))).2.1, (List.getD v.2.1 (Int.toNat v.1) (0, (0, (0, ((([], ()), (([], ()), (([], (0, (0, ()))), (([], (0, ())), ())))), ()))))).2.2.1, (((List.getD v.2.1 (Int.toNat v.1) (0, (0, (0, ((([], ()), (([], ()), (([], (0, (0, ()))), (([], (0, ())), ())))), ()))))).2.2.2.1.1.1, ()), ((List.getD v.2.1 (Int.toNat v.1) (0, (0, (0, ((([], ()), (([], ()), (([], (0, (0, ()))), (([], (0, ())), ())))), ()))))).2.2.2.1.2.1.1, ()), ((List.getD v.2.1 (Int.toNat v.1) (0, (0, (0, ((([], ()), (([], ()), (([], (0, (0, ()))), (([], (0, ())), ())))), ()))))).2.2.2.1.2.2.1.1, (List.getD v.2.1 (Int.toNat v.1) (0, (0, (0, ((([], ()), (([], ()), (([], (0, (0, ()))), (([], (0, ())), ())))), ()))))).2.2.2.1.2.2.1.2.1, (List.getD v.2.1 (Int.toNat v.1) (0, (0, (0, ((([], ()), (([], ()), (([], (0, (0, ()))), (([], (0, ())), ())))), ()))))).2.2.2.1.2.2.1.2.2.1, ()), ((List.getD v.2.1 (Int.toNat v.1) (0, (0, (0, ((([], ()), (([], ()), (([], (0, (0, ()))), (([], (0, ())), ())))), ()))))).2.2.2.1.2.2.2.1.1, (List.getD v.2.1 (Int.toNat v.1) (0, (0, (0, ((([], ()), (([], ()), (([], (0, (0, ()))), (([], (0, ())), ())))), ()))))).2.2.2.1.2.2.2.1.2.1, ()), ()), ())])))
 (tst (decide (0 ≤ v.1)) <|
 tst (decide (v.1 < (zz (List.length v.2.1)))) <|
 tst (decide (List.length v.2.2.2.2.2.2.2.2.2.2.2.2.2 + 1 < LIM)) <|
 g0 (w64 (v.1 + (1 : Int)), v.2.1, v.2.2.1, v.2.2.2.1, v.2.2.2.2.1, v.2.2.2.2.2.1, v.2.2.2.2.2.2.1, v.2.2.2.2.2.2.2.1, v.2.2.2.2.2.2.2.2.1, v.2.2.2.2.2.2.2.2.2.1, v.2.2.2.2.2.2.2.2.2.2.1, v.2.2.2.2.2.2.2.2.2.2.2.1, v.2.2.2.2.2.2.2.2.2.2.2.2.1, v.2.2.2.2.2.2.2.2.2.2.2.2.2 ++ [((List.getD v.2.1 (Int.toNat v.1) (0, (0, (0, ((([], ()), (([], ()), (([], (0, (0, ()))), (([], (0, ())), ())))), ()))))).1, (List.getD v.2.1 (Int.toNat v.1) (0, (0, (0, ((([], ()), (([], ()), (([], (0, (0, ()))), (([], (0, ())), ())))), ()))))).2.1, (List.getD v.2.1 (Int.toNat v.1) (0, (0, (0, ((([], ()), (([], ()), (([], (0, (0, ()))), (([], (0, ())), ())))), ()))))).2.2.1, (((List.getD v.2.1 (Int.toNat v.1) (0, (0, (0, ((([], ()), (([], ()), (([], (0, (0, ()))), (([], (0, ())), ())))), ()))))).2.2.2.1.1.1, ()), ((List.getD v.2.1 (Int.toNat v.1) (0, (0, (0, ((([], ()), (([], ()), (([], (0, (0, ()))), (([], (0, ())), ())))), ()))))).2.2.2.1.2.1.1, ()), ((List.getD v.2.1 (Int.toNat v.1) (0, (0, (0, ((([], ()), (([], ()), (([], (0, (0, ()))), (([], (0, ())), ())))), ()))))).2.2.2.1.2.2.1.1, (List.getD v.2.1 (Int.toNat v.1) (0, (0, (0, ((([], ()), (([], ()), (([], (0, (0, ()))), (([], (0, ())), ())))), ()))))).2.2.2.1.2.2.1.2.1, (List.getD v.2.1 (Int.toNat v.1) (0, (0, (0, ((([], ()), (([], ()), (([], (0, (0, ()))), (([], (0, ())), ())))), ()))))).2.2.2.1.2.2.1.2.2.1, ()), ((List.getD v.2.1 (Int.toNat v.1) (0, (0, (0, ((([], ()), (([], ()), (([], (0, (0, ()))), (([], (0, ())), ())))), ()))))).2.2.2.1.2.2.2.1.1, (List.getD v.2.1 (Int.toNat v.1) (0, (0, (0, ((([], ()), (([], ()), (([], (0, (0, ()))), (([], (0, ())), ())))), ()))))).2.2.2.1.2.2.2.1.2.1, ()), ()), ())])))
 (tst (decide (0 ≤ v.1)) <|
 tst (decide (v.1 < (zz (List.length v.2.1)))) <|
 tst (decide (List.length v.2.2.2.2.2.2.2.2.2.2.2.2.2 + 1 < LIM)) <|
 g0 (w64 (v.1 + (1 : Int)), v.2.1, v.2.2.1, v.2.2.2.1, v.2.2.2.2.1, v.2.2.2.2.2.1, v.2.2.2.2.2.2.1, v.2.2.2.2.2.2.2.1, v.2.2.2.2.2.2.2.2.1, v.2.2.2.2.2.2.2.2.2.1, v.2.2.2.2.2.2.2.2.2.2.1, v.2.2.2.2.2.2.2.2.2.2.2.1, v.2.2.2.2.2.2.2.2.2.2.2.2.1, v.2.2.2.2.2.2.2.2.2.2.2.2.2 ++ [((List.getD v.2.1 (Int.toNat v.1) (0, (0, (0, ((([], ()), (([], ()), (([], (0, (0, ()))), (([], (0, ())), ())))), ()))))).1, (List.getD v.2.1 (Int.toNat v.1) (0, (0, (0, ((([], ()), (([], ()), (([], (0, (0, ()))), (([], (0, ())), ())))), ()))))).2.1, (List.getD v.2.1 (Int.toNat v.1) (0, (0, (0, ((([], ()), (([], ()), (([], (0, (0, ()))), (([], (0, ())), ())))), ()))))).2.2.1, (((List.getD v.2.1 (Int.toNat v.1) (0, (0, (0, ((([], ()), (([], ()), (([], (0, (0, ()))), (([], (0, ())), ())))), ()))))).2.2.2.1.1.1, ()), ((List.getD v.2.1 (Int.toNat v.1) (0, (0, (0, ((([], ()), (([], ()), (([], (0, (0, ()))), (([], (0, ())), ())))), ()))))).2.2.2.1.2.1.1, ()), ((List.getD v.2.1 (Int.toNat v.1) (0, (0, (0, ((([], ()), (([], ()), (([], (0, (0, ()))), (([], (0, ())), ())))), ()))))).2.2.2.1.2.2.1.1, (List.getD v.2.1 (Int.toNat v.1) (0, (0, (0, ((([], ()), (([], ()), (([], (0, (0, ()))), (([], (0, ())), ())))), ()))))).2.2.2.1.2.2.1.2.1, (List.getD v.2.1 (Int.toNat v.1) (0, (0, (0, ((([], ()), (([], ()), (([], (0, (0, ()))), (([], (0, ())), ())))), ()))))).2.2.2.1.2.2.1.2.2.1, ()), ((List.getD v.2.1 (Int.toNat v.1) (0, (0, (0, ((([], ()), (([], ()), (([], (0, (0, ()))), (([], (0, ())), ())))), ()))))).2.2.2.1.2.2.2.1.1, (List.getD v.2.1 (Int.toNat v.1) (0, (0, (0, ((([], ()), (([], ()), (([], (0, (0, ()))), (([], (0, ())), ())))), ()))))).2.2.2.1.2.2.2.1.2.1, ()), ()), ())])))
 (cond (!v.2.2.1)
 (tst (decide (List.length v.2.2.2.2.2.2.2.2.2.2.2.2.2 + 1 < LIM)) <|
 some (((v.2.2.2.2.2.2.2.2.2.2.2.2.2 ++ [(v.2.2.2.1, v.2.2.2.2.1, v.2.2.2.2.2.1, ((v.2.2.2.2.2.2.1, ()), (v.2.2.2.2.2.2.2.1, ()), (v.2.2.2.2.2.2.2.2.1, v.2.2.2.2.2.2.2.2.2.1, v.2.2.2.2.2.2.2.2.2.2.1, ()), (v.2.2.2.2.2.2.2.2.2.2.2.1, v.2.2.2.2.2.2.2.2.2.2.2.2.1, ()), ()), ())], ()), ())))
 (some (((v.2.2.2.2.2.2.2.2.2.2.2.2.2, ()), ()))))
def zhL (fuel : Nat) (g0 : zcI → zbV) : zcI → zbV := zaM fuel g0
theorem zu2 (fuel : Nat) (G) : zhK.lp (zfp fuel) 0 fuel G (endX zfq zbm) 0 zn7 = iter (zhL fuel) fuel := C.lp_iter fun g v => by kernel_rfl
def zn8 (fuel : Nat) (X0 : zcI → zbV) (x0 : List EY) (x1 : Int) (x2 : Int) (x3 : Int) (x4 : List (List Int)) (x5 : List Int) (x6 : LP) (x7 : Int) (x8 : Int) (x9 : LP) (x10 : Int) : zbV :=
 X0 ((0 : Int), x0, false, x1, x2, x3, x4, x5, x6, x7, x8, x9, x10, [])
def zfr (fuel : Nat) (z : (((List EY) × Unit) × ((Int × (Int × (Int × SumY))) × Unit))) : zbV := zn8 fuel (iter (zhL fuel) fuel) z.1.1 z.2.1.1 z.2.1.2.1 z.2.1.2.2.1 z.2.1.2.2.2.1 z.2.1.2.2.2.2.1 z.2.1.2.2.2.2.2.1 z.2.1.2.2.2.2.2.2.1 z.2.1.2.2.2.2.2.2.2.1 z.2.1.2.2.2.2.2.2.2.2.1 z.2.1.2.2.2.2.2.2.2.2.2.1
theorem zu3 (fuel : Nat) (xa : zbm.rt.T) (xd : zbm.D.T) : zbm.go (zfp fuel) fuel zhK zfq xa xd = zfr fuel (zbm.xb (xa, xd)) :=
  (show zbm.go (zfp fuel) fuel zhK zfq xa xd = zn8 fuel (zhK.lp (zfp fuel) 0 fuel (fun _ _ _ => none) (endX zfq zbm) 0 zn7) xd.1.1 xd.2.1.1 xd.2.1.2.1 xd.2.1.2.2.1 xd.2.1.2.2.2.1 xd.2.1.2.2.2.2.1 xd.2.1.2.2.2.2.2.1 xd.2.1.2.2.2.2.2.2.1 xd.2.1.2.2.2.2.2.2.2.1 xd.2.1.2.2.2.2.2.2.2.2.1 xd.2.1.2.2.2.2.2.2.2.2.2.1 by kernel_rfl).trans (by rw [zu2]; rfl)
abbrev zkd (fuel : Nat) : LE := ⟨zbm, zfr fuel⟩
theorem zu4 (fuel : Nat) : EntryOK Try.prog 57 (zkd fuel).te := okF (T := zfp fuel) (fn := Try.f57) (le := zkd fuel) (frz := []) (ann := zn6) (cuts := []) (rv := zfq) (TabOK.of (entCons (zn5 fuel) entNil) (methNil)) mixed (by kernel_rfl) (by kernel_rfl) (by kernel_rfl) (fun _ => rfl) (fun _ => rfl) (fun xa xd y h => ⟨fuel, (zu3 fuel xa xd).trans h⟩)
abbrev zbW := Option ((List EY) × (((List EY) × Unit) × Unit))
def zfs (fuel : Nat) : Tab := Tab.of [(72, (zhJ fuel).te)] []
def zn9 : List Norm := [{ live := [7, 0, 6, 3, 5], fix := [(5, none, KE, true)] }]
noncomputable def zhM : C := irOf Try.prog Try.f57 [] zn9 []
def zft : List (Nat × Option (Nat × Bool)) := [(4, none)]
abbrev zu5 : Sx := .agg (.dat I6 (.dat I6 (.dat I6 (.dat (Kd.list (Kd.list I6)) (.dat (Kd.list I6) (.dat (Kd.list KP) (.dat I6 (.dat I6 (.dat (Kd.list KP) (.dat I6 .nil)))))))))) .nil
abbrev zu6 : Sx := .grp (.own 0 KE .nil) .nil
abbrev zbn : LF := .slc KE zu5 zu6 false
abbrev zcJ := (Int) × (Bool) × (List EY) × (Int) × (Int) × (Int) × (List (List Int)) × (List Int) × LP × (Int) × (Int) × LP × (Int) × (List EY)
def zoa (v : zcJ) : Env × Heap := ([(7, SV.int .i64 v.1), (0, SV.own 0), (6, SV.bool v.2.1), (3, SV.ptr 1 0), (5, SV.own 2)], [Blk.arr KE v.2.2.1 0, Blk.cells [SV.int .i64 v.2.2.2.1, SV.int .i64 v.2.2.2.2.1, SV.int .i64 v.2.2.2.2.2.1, SV.es (Kd.list I6) v.2.2.2.2.2.2.1, SV.es I6 v.2.2.2.2.2.2.2.1, SV.es KP v.2.2.2.2.2.2.2.2.1, SV.int .i64 v.2.2.2.2.2.2.2.2.2.1, SV.int .i64 v.2.2.2.2.2.2.2.2.2.2.1, SV.es KP v.2.2.2.2.2.2.2.2.2.2.2.1, SV.int .i64 v.2.2.2.2.2.2.2.2.2.2.2.2.1] 0 10, Blk.arr KE v.2.2.2.2.2.2.2.2.2.2.2.2.2 0])
def zaN (fuel : Nat) (g0 : zcJ → zbW) (v : zcJ) : zbW :=
 cond (decide (v.1 < (zz (List.length v.2.2.1))))
 (cond (!v.2.1)
 (tst (decide (0 ≤ v.1)) <|
 tst (decide (v.1 < (zz (List.length v.2.2.1)))) <|
 tst (decide (Int.toNat v.1 < List.length v.2.2.1)) <|
 cond (decide ((List.getD v.2.2.1 (Int.toNat v.1) (0, (0, (0, ((([], ()), (([], ()), (([], (0, (0, ()))), (([], (0, ())), ())))), ()))))).1 ≥ v.2.2.2.1))
 (tst (decide (0 ≤ v.1)) <|
 tst (decide (v.1 < (zz (List.length v.2.2.1)))) <|
 tst (decide (Int.toNat v.1 < List.length v.2.2.1)) <|
 cond ((List.getD v.2.2.1 (Int.toNat v.1) (0, (0, (0, ((([], ()), (([], ()), (([], (0, (0, ()))), (([], (0, ())), ())))), ()))))).1 == v.2.2.2.1)
 (tst (decide (0 ≤ v.1)) <|
 tst (decide (v.1 < (zz (List.length v.2.2.1)))) <|
 tst (decide (Int.toNat v.1 < List.length v.2.2.1)) <|
 Option.bind (zfo fuel ((v.2.2.2.1, v.2.2.2.2.1, v.2.2.2.2.2.1, v.2.2.2.2.2.2.1, v.2.2.2.2.2.2.2.1, v.2.2.2.2.2.2.2.2.1, v.2.2.2.2.2.2.2.2.2.1, v.2.2.2.2.2.2.2.2.2.2.1, v.2.2.2.2.2.2.2.2.2.2.2.1, v.2.2.2.2.2.2.2.2.2.2.2.2.1, ()), ((List.getD v.2.2.1 (Int.toNat v.1) (0, (0, (0, ((([], ()), (([], ()), (([], (0, (0, ()))), (([], (0, ())), ())))), ()))))).1, (List.getD v.2.2.1 (Int.toNat v.1) (0, (0, (0, ((([], ()), (([], ()), (([], (0, (0, ()))), (([], (0, ())), ())))), ()))))).2.1, (List.getD v.2.2.1 (Int.toNat v.1) (0, (0, (0, ((([], ()), (([], ()), (([], (0, (0, ()))), (([], (0, ())), ())))), ()))))).2.2.1, (List.getD v.2.2.1 (Int.toNat v.1) (0, (0, (0, ((([], ()), (([], ()), (([], (0, (0, ()))), (([], (0, ())), ())))), ()))))).2.2.2.1.1.1, (List.getD v.2.2.1 (Int.toNat v.1) (0, (0, (0, ((([], ()), (([], ()), (([], (0, (0, ()))), (([], (0, ())), ())))), ()))))).2.2.2.1.2.1.1, (List.getD v.2.2.1 (Int.toNat v.1) (0, (0, (0, ((([], ()), (([], ()), (([], (0, (0, ()))), (([], (0, ())), ())))), ()))))).2.2.2.1.2.2.1.1, (List.getD v.2.2.1 (Int.toNat v.1) (0, (0, (0, ((([], ()), (([], ()), (([], (0, (0, ()))), (([], (0, ())), ())))), ()))))).2.2.2.1.2.2.1.2.1, (List.getD v.2.2.1 (Int.toNat v.1) (0, (0, (0, ((([], ()), (([], ()), (([], (0, (0, ()))), (([], (0, ())), ())))), ()))))).2.2.2.1.2.2.1.2.2.1, (List.getD v.2.2.1 (Int.toNat v.1) (0, (0, (0, ((([], ()), (([], ()), (([], (0, (0, ()))), (([], (0, ())), ())))), ()))))).2.2.2.1.2.2.2.1.1, (List.getD v.2.2.1 (Int.toNat v.1) (0, (0, (0, ((([], ()), (([], ()), (([], (0, (0, ()))), (([], (0, ())), ())))), ()))))).2.2.2.1.2.2.2.1.2.1, ()), ())) fun y_5 =>
 cond (y_5.1.1)
 (tst (decide (List.length v.2.2.2.2.2.2.2.2.2.2.2.2.2 + 1 < LIM)) <|
 g0 (w64 (v.1 + (1 : Int)), true, v.2.2.1, v.2.2.2.1, v.2.2.2.2.1, v.2.2.2.2.2.1, v.2.2.2.2.2.2.1, v.2.2.2.2.2.2.2.1, v.2.2.2.2.2.2.2.2.1, v.2.2.2.2.2.2.2.2.2.1, v.2.2.2.2.2.2.2.2.2.2.1, v.2.2.2.2.2.2.2.2.2.2.2.1, v.2.2.2.2.2.2.2.2.2.2.2.2.1, v.2.2.2.2.2.2.2.2.2.2.2.2.2 ++ [(v.2.2.2.1, v.2.2.2.2.1, v.2.2.2.2.2.1, ((v.2.2.2.2.2.2.1, ()), (v.2.2.2.2.2.2.2.1, ()), (v.2.2.2.2.2.2.2.2.1, v.2.2.2.2.2.2.2.2.2.1, v.2.2.2.2.2.2.2.2.2.2.1, ()), (v.2.2.2.2.2.2.2.2.2.2.2.1, v.2.2.2.2.2.2.2.2.2.2.2.2.1, ()), ()), ())]))
 (tst (decide (0 ≤ v.1)) <|
 tst (decide (v.1 < (zz (List.length v.2.2.1)))) <|
 tst (decide (Int.toNat v.1 < List.length v.2.2.1)) <|
 tst (decide (List.length v.2.2.2.2.2.2.2.2.2.2.2.2.2 + 1 < LIM)) <|
 g0 (w64 (v.1 + (1 : Int)), true, v.2.2.1, v.2.2.2.1, v.2.2.2.2.1, v.2.2.2.2.2.1, v.2.2.2.2.2.2.1, v.2.2.2.2.2.2.2.1, v.2.2.2.2.2.2.2.2.1, v.2.2.2.2.2.2.2.2.2.1, v.2.2.2.2.2.2.2.2.2.2.1, v.2.2.2.2.2.2.2.2.2.2.2.1, v.2.2.2.2.2.2.2.2.2.2.2.2.1, v.2.2.2.2.2.2.2.2.2.2.2.2.2 ++ [((List.getD v.2.2.1 (Int.toNat v.1) (0, (0, (0, ((([], ()), (([], ()), (([], (0, (0, ()))), (([], (0, ())), ())))), ()))))).1, (List.getD v.2.2.1 (Int.toNat v.1) (0, (0, (0, ((([], ()), (([], ()), (([], (0, (0, ()))), (([], (0, ())), ())))), ()))))).2.1, (List.getD v.2.2.1 (Int.toNat v.1) (0, (0, (0, ((([], ()), (([], ()), (([], (0, (0, ()))), (([], (0, ())), ())))), ()))))).2.2.1, (((List.getD v.2.2.1 (Int.toNat v.1) (0, (0, (0, ((([], ()), (([], ()), (([], (0, (0, ()))), (([], (0, ())), ())))), ()))))).2.2.2.1.1.1, ()), ((List.getD v.2.2.1 (Int.toNat v.1) (0, (0, (0, ((([], ()), (([], ()), (([], (0, (0, ()))), (([], (0, ())), ())))), ()))))).2.2.2.1.2.1.1, ()), ((List.getD v.2.2.1 (Int.toNat v.1) (0, (0, (0, ((([], ()), (([], ()), (([], (0, (0, ()))), (([], (0, ())), ())))), ()))))).2.2.2.1.2.2.1.1, (List.getD v.2.2.1 (Int.toNat v.1) (0, (0, (0, ((([], ()), (([], ()), (([], (0, (0, ()))), (([], (0, ())), ())))), ()))))).2.2.2.1.2.2.1.2.1, (List.getD v.2.2.1 (Int.toNat v.1) (0, (0, (0, ((([], ()), (([], ()), (([], (0, (0, ()))), (([], (0, ())), ())))), ()))))).2.2.2.1.2.2.1.2.2.1, ()), ((List.getD v.2.2.1 (Int.toNat v.1) (0, (0, (0, ((([], ()), (([], ()), (([], (0, (0, ()))), (([], (0, ())), ())))), ()))))).2.2.2.1.2.2.2.1.1, (List.getD v.2.2.1 (Int.toNat v.1) (0, (0, (0, ((([], ()), (([], ()), (([], (0, (0, ()))), (([], (0, ())), ())))), ()))))).2.2.2.1.2.2.2.1.2.1, ()), ()), ())])))
 (tst (decide (List.length v.2.2.2.2.2.2.2.2.2.2.2.2.2 + 1 < LIM)) <|
 tst (decide (0 ≤ v.1)) <|
 tst (decide (v.1 < (zz (List.length v.2.2.1)))) <|
 tst (decide (Int.toNat v.1 < List.length v.2.2.1)) <|
 tst (decide (List.length (v.2.2.2.2.2.2.2.2.2.2.2.2.2 ++ [(v.2.2.2.1, v.2.2.2.2.1, v.2.2.2.2.2.1, ((v.2.2.2.2.2.2.1, ()), (v.2.2.2.2.2.2.2.1, ()), (v.2.2.2.2.2.2.2.2.1, v.2.2.2.2.2.2.2.2.2.1, v.2.2.2.2.2.2.2.2.2.2.1, ()), (v.2.2.2.2.2.2.2.2.2.2.2.1, v.2.2.2.2.2.2.2.2.2.2.2.2.1, ()), ()), ())]) + 1 < LIM)) <|
 g0 (w64 (v.1 + (1 : Int)), true, v.2.2.1, v.2.2.2.1, v.2.2.2.2.1, v.2.2.2.2.2.1, v.2.2.2.2.2.2.1, v.2.2.2.2.2.2.2.1, v.2.2.2.2.2.2.2.2.1, v.2.2.2.2.2.2.2.2.2.1, v.2.2.2.2.2.2.2.2.2.2.1, v.2.2.2.2.2.2.2.2.2.2.2.1, v.2.2.2.2.2.2.2.2.2.2.2.2.1, v.2.2.2.2.2.2.2.2.2.2.2.2.2 ++ [(v.2.2.2.1, v.2.2.2.2.1, v.2.2.2.2.2.1, ((v.2.2.2.2.2.2.1, ()), (v.2.2.2.2.2.2.2.1, ()), (v.2.2.2.2.2.2.2.2.1, v.2.2.2.2.2.2.2.2.2.1, v.2.2.2.2.2.2.2.2.2.2.1, ()), (v.2.2.2.2.2.2.2.2.2.2.2.1, v.2.2.2.2.2.2.2.2.2.2.2.2.1, ()), ()), ())] ++ [((List.getD v.2.2.1 (Int.toNat v.1) (0, (0, (0, ((([], ()), (([], ()), (([], (0, (0, ()))), (([], (0, ())), ())))), ()))))).1, (List.getD v.2.2.1 (Int.toNat v.1) (0, (0, (0, ((([], ()), (([], ()), (([], (0, (0, ()))), (([], (0, ())), ())))), ()))))).2.1, (List.getD v.2.2.1 (Int.toNat v.1) (0, (0, (0, ((([], ()), (([], ()), (([], (0, (0, ()))), (([], (0, ())), ())))), ()))))).2.2.1, (((List.getD v.2.2.1 (Int.toNat v.1) (0, (0, (0, ((([], ()), (([], ()), (([], (0, (0, ()))), (([], (0, ())), ())))), ()))))).2.2.2.1.1.1, ()), ((List.getD v.2.2.1 (Int.toNat v.1) (0, (0, (0, ((([], ()), (([], ()), (([], (0, (0, ()))), (([], (0, ())), ())))), ()))))).2.2.2.1.2.1.1, ()), ((List.getD v.2.2.1 (Int.toNat v.1) (0, (0, (0, ((([], ()), (([], ()), (([], (0, (0, ()))), (([], (0, ())), ())))), ()))))).2.2.2.1.2.2.1.1, (List.getD v.2.2.1 (Int.toNat v.1) (0, (0, (0, ((([], ()), (([], ()), (([], (0, (0, ()))), (([], (0, ())), ())))), ()))))).2.2.2.1.2.2.1.2.1, (List.getD v.2.2.1 (Int.toNat v.1) (0, (0, (0, ((([], ()), (([], ()), (([], (0, (0, ()))), (([], (0, ())), ())))), ()))))).2.2.2.1.2.2.1.2.2.1, ()), ((List.getD v.2.2.1 (Int.toNat v.1) (0, (0, (0, ((([], ()), (([], ()), (([], (0, (0, ()))), (([], (0, ())), ())))), ()))))).2.2.2.1.2.2.2.1.1, (List.getD v.2.2.1 (Int.toNat v.1) (0, (0, (0, ((([], ()), (([], ()), (([], (0, (0, ()))), (([], (0, ())), ())))), ()))))).2.2.2.1.2.2.2.1.2.1, ()), ()), ())])))
 (tst (decide (0 ≤ v.1)) <|
 tst (decide (v.1 < (zz (List.length v.2.2.1)))) <|
 tst (decide (Int.toNat v.1 < List.length v.2.2.1)) <|
 tst (decide (List.length v.2.2.2.2.2.2.2.2.2.2.2.2.2 + 1 < LIM)) <|
 g0 (w64 (v.1 + (1 : Int)), v.2.1, v.2.2.1, v.2.2.2.1, v.2.2.2.2.1, v.2.2.2.2.2.1, v.2.2.2.2.2.2.1, v.2.2.2.2.2.2.2.1, v.2.2.2.2.2.2.2.2.1, v.2.2.2.2.2.2.2.2.2.1, v.2.2.2.2.2.2.2.2.2.2.1, v.2.2.2.2.2.2.2.2.2.2.2.1, v.2.2.2.2.2.2.2.2.2.2.2.2.1, v.2.2.2.2.2.2.2.2.2.2.2.2.2 ++ [((List.getD v.2.2.1 (Int.toNat v.1) (0, (0, (0, ((([], ()), (([], ()), (([], (0, (0, ()))), (([], (0, ())), ())))), ()))))).1, (List.getD v.2.2.1 (Int.toNat v.1) (0, (0, (0, ((([], ()), (([], ()), (([], (0, (0, ()))), (([], (0, ())), ())))), ()))))).2.1, (List.getD v.2.2.1 (Int.toNat v.1) (0, (0, (0, ((([], ()), (([], ()), (([], (0, (0, ()))), (([], (0, ())), ())))), ()))))).2.2.1, (((List.getD v.2.2.1 (Int.toNat v.1) (0, (0, (0, ((([], ()), (([], ()), (([], (0, (0, ()))), (([], (0, ())), ())))), ()))))).2.2.2.1.1.1, ()), ((List.getD v.2.2.1 (Int.toNat v.1) (0, (0, (0, ((([], ()), (([], ()), (([], (0, (0, ()))), (([], (0, ())), ())))), ()))))).2.2.2.1.2.1.1, ()), ((List.getD v.2.2.1 (Int.toNat v.1) (0, (0, (0, ((([], ()), (([], ()), (([], (0, (0, ()))), (([], (0, ())), ())))), ()))))).2.2.2.1.2.2.1.1, (List.getD v.2.2.1 (Int.toNat v.1) (0, (0, (0, ((([], ()), (([], ()), (([], (0, (0, ()))), (([], (0, ())), ())))), ()))))).2.2.2.1.2.2.1.2.1, (List.getD v.2.2.1 (Int.toNat v.1) (0, (0, (0, ((([], ()), (([], ()), (([], (0, (0, ()))), (([], (0, ())), ())))), ()))))).2.2.2.1.2.2.1.2.2.1, ()), ((List.getD v.2.2.1 (Int.toNat v.1) (0, (0, (0, ((([], ()), (([], ()), (([], (0, (0, ()))), (([], (0, ())), ())))), ()))))).2.2.2.1.2.2.2.1.1, (List.getD v.2.2.1 (Int.toNat v.1) (0, (0, (0, ((([], ()), (([], ()), (([], (0, (0, ()))), (([], (0, ())), ())))), ()))))).2.2.2.1.2.2.2.1.2.1, ()), ()), ())])))
 (tst (decide (0 ≤ v.1)) <|
 tst (decide (v.1 < (zz (List.length v.2.2.1)))) <|
 tst (decide (Int.toNat v.1 < List.length v.2.2.1)) <|
 tst (decide (List.length v.2.2.2.2.2.2.2.2.2.2.2.2.2 + 1 < LIM)) <|
 g0 (w64 (v.1 + (1 : Int)), v.2.1, v.2.2.1, v.2.2.2.1, v.2.2.2.2.1, v.2.2.2.2.2.1, v.2.2.2.2.2.2.1, v.2.2.2.2.2.2.2.1, v.2.2.2.2.2.2.2.2.1, v.2.2.2.2.2.2.2.2.2.1, v.2.2.2.2.2.2.2.2.2.2.1, v.2.2.2.2.2.2.2.2.2.2.2.1, v.2.2.2.2.2.2.2.2.2.2.2.2.1, v.2.2.2.2.2.2.2.2.2.2.2.2.2 ++ [((List.getD v.2.2.1 (Int.toNat v.1) (0, (0, (0, ((([], ()), (([], ()), (([], (0, (0, ()))), (([], (0, ())), ())))), ()))))).1, (List.getD v.2.2.1 (Int.toNat v.1) (0, (0, (0, ((([], ()), (([], ()), (([], (0, (0, ()))), (([], (0, ())), ())))), ()))))).2.1, (List.getD v.2.2.1 (Int.toNat v.1) (0, (0, (0, ((([], ()), (([], ()), (([], (0, (0, ()))), (([], (0, ())), ())))), ()))))).2.2.1, (((List.getD v.2.2.1 (Int.toNat v.1) (0, (0, (0, ((([], ()), (([], ()), (([], (0, (0, ()))), (([], (0, ())), ())))), ()))))).2.2.2.1.1.1, ()), ((List.getD v.2.2.1 (Int.toNat v.1) (0, (0, (0, ((([], ()), (([], ()), (([], (0, (0, ()))), (([], (0, ())), ())))), ()))))).2.2.2.1.2.1.1, ()), ((List.getD v.2.2.1 (Int.toNat v.1) (0, (0, (0, ((([], ()), (([], ()), (([], (0, (0, ()))), (([], (0, ())), ())))), ()))))).2.2.2.1.2.2.1.1, (List.getD v.2.2.1 (Int.toNat v.1) (0, (0, (0, ((([], ()), (([], ()), (([], (0, (0, ()))), (([], (0, ())), ())))), ()))))).2.2.2.1.2.2.1.2.1, (List.getD v.2.2.1 (Int.toNat v.1) (0, (0, (0, ((([], ()), (([], ()), (([], (0, (0, ()))), (([], (0, ())), ())))), ()))))).2.2.2.1.2.2.1.2.2.1, ()), ((List.getD v.2.2.1 (Int.toNat v.1) (0, (0, (0, ((([], ()), (([], ()), (([], (0, (0, ()))), (([], (0, ())), ())))), ()))))).2.2.2.1.2.2.2.1.1, (List.getD v.2.2.1 (Int.toNat v.1) (0, (0, (0, ((([], ()), (([], ()), (([], (0, (0, ()))), (([], (0, ())), ())))), ()))))).2.2.2.1.2.2.2.1.2.1, ()), ()), ())])))
 (cond (!v.2.1)
 (tst (decide (List.length v.2.2.2.2.2.2.2.2.2.2.2.2.2 + 1 < LIM)) <|
 some ((v.2.2.1, (v.2.2.2.2.2.2.2.2.2.2.2.2.2 ++ [(v.2.2.2.1, v.2.2.2.2.1, v.2.2.2.2.2.1, ((v.2.2.2.2.2.2.1, ()), (v.2.2.2.2.2.2.2.1, ()), (v.2.2.2.2.2.2.2.2.1, v.2.2.2.2.2.2.2.2.2.1, v.2.2.2.2.2.2.2.2.2.2.1, ()), (v.2.2.2.2.2.2.2.2.2.2.2.1, v.2.2.2.2.2.2.2.2.2.2.2.2.1, ()), ()), ())], ()), ())))
 (some ((v.2.2.1, (v.2.2.2.2.2.2.2.2.2.2.2.2.2, ()), ()))))
def zhN (fuel : Nat) (g0 : zcJ → zbW) : zcJ → zbW := zaN fuel g0
theorem zu7 (fuel : Nat) (G) : zhM.lp (zfs fuel) 1 fuel G (endX zft zbn) 0 zoa = iter (zhN fuel) fuel := C.lp_iter fun g v => by kernel_rfl
def zob (fuel : Nat) (X0 : zcJ → zbW) (d0 : List EY) (x0 : Int) (x1 : Int) (x2 : Int) (x3 : List (List Int)) (x4 : List Int) (x5 : LP) (x6 : Int) (x7 : Int) (x8 : LP) (x9 : Int) : zbW :=
 X0 ((0 : Int), false, d0, x0, x1, x2, x3, x4, x5, x6, x7, x8, x9, [])
def zhO (fuel : Nat) (z : ((List EY) × (Unit × ((Int × (Int × (Int × SumY))) × Unit)))) : zbW := zob fuel (iter (zhN fuel) fuel) z.1 z.2.2.1.1 z.2.2.1.2.1 z.2.2.1.2.2.1 z.2.2.1.2.2.2.1 z.2.2.1.2.2.2.2.1 z.2.2.1.2.2.2.2.2.1 z.2.2.1.2.2.2.2.2.2.1 z.2.2.1.2.2.2.2.2.2.2.1 z.2.2.1.2.2.2.2.2.2.2.2.1 z.2.2.1.2.2.2.2.2.2.2.2.2.1
theorem zu8 (fuel : Nat) (xa : zbn.rt.T) (xd : zbn.D.T) : zbn.go (zfs fuel) fuel zhM zft xa xd = zhO fuel (zbn.xb (xa, xd)) :=
  (show zbn.go (zfs fuel) fuel zhM zft xa xd = zob fuel (zhM.lp (zfs fuel) 1 fuel (fun _ _ _ => none) (endX zft zbn) 0 zoa) xa xd.1.1 xd.1.2.1 xd.1.2.2.1 xd.1.2.2.2.1 xd.1.2.2.2.2.1 xd.1.2.2.2.2.2.1 xd.1.2.2.2.2.2.2.1 xd.1.2.2.2.2.2.2.2.1 xd.1.2.2.2.2.2.2.2.2.1 xd.1.2.2.2.2.2.2.2.2.2.1 by kernel_rfl).trans (by rw [zu7]; rfl)
abbrev zke (fuel : Nat) : LE := ⟨zbn, zhO fuel⟩
theorem zu9 (fuel : Nat) : EntryOK Try.prog 57 (zke fuel).te := okF (T := zfs fuel) (fn := Try.f57) (le := zke fuel) (frz := []) (ann := zn9) (cuts := []) (rv := zft) (TabOK.of (entCons (zn5 fuel) entNil) (methNil)) mixed (by kernel_rfl) (by kernel_rfl) (by kernel_rfl) (fun _ => rfl) (fun _ => rfl) (fun xa xd y h => ⟨fuel, (zu8 fuel xa xd).trans h⟩)
def zoc (fuel : Nat) : Tab := Tab.of [(38, (zha fuel).te)] []
def zod : List Norm := []
noncomputable def zva : C := irOf Try.prog Try.f29 [13] zod []
def zoe : List (Nat × Option (Nat × Bool)) := [(4, some (5, true))]
abbrev zvb : Sx := .grp (.dat I6 .nil) (.grp (.dat I6 .nil) .nil)
abbrev zvc : Sx := .agg (.dat I6 (.own 0 KE (.dat I6 (.dat I6 (.dat I6 .nil))))) .nil
abbrev zfu : LF := .pure zvb zvc false
def zkf (fuel : Nat) (x0 : Int) (x1 : Int) : Option (NY × Unit) :=
 cond (x0 == (0 : Int))
 (Option.bind (zcr fuel ()) fun y_2 =>
 some (((x1, [(x0, x1, (0 : Int), ((y_2.1.1, ()), (y_2.1.2.1, ()), (y_2.1.2.2.1, y_2.1.2.2.2.1, y_2.1.2.2.2.2.1, ()), (y_2.1.2.2.2.2.2.1, y_2.1.2.2.2.2.2.2.1, ()), ()), ())], (0 : Int), (0 : Int), (-1 : Int), ()), ())))
 (Option.bind (zcr fuel ()) fun y_2 =>
 some (((x1, [(x0, x1, (0 : Int), ((y_2.1.1, ()), (y_2.1.2.1, ()), (y_2.1.2.2.1, y_2.1.2.2.2.1, y_2.1.2.2.2.2.1, ()), (y_2.1.2.2.2.2.2.1, y_2.1.2.2.2.2.2.2.1, ()), ()), ())], (0 : Int), (5 : Int), (-1 : Int), ()), ())))
def zfv (fuel : Nat) (z : ((Int × Unit) × ((Int × Unit) × Unit))) : Option (NY × Unit) := zkf fuel z.1.1 z.2.1.1
theorem zvd (fuel : Nat) (xa : zfu.rt.T) (xd : zfu.D.T) : zfu.go (zoc fuel) fuel zva zoe xa xd = zfv fuel (zfu.xb (xa, xd)) := by kernel_rfl
abbrev zhP (fuel : Nat) : LE := ⟨zfu, zfv fuel⟩
theorem zof (fuel : Nat) : EntryOK Try.prog 29 (zhP fuel).te := okF (T := zoc fuel) (fn := Try.f29) (le := zhP fuel) (frz := [13]) (ann := zod) (cuts := []) (rv := zoe) (TabOK.of (entCons (zmV fuel) entNil) (methNil)) mixed (by kernel_rfl) (by kernel_rfl) (by kernel_rfl) (fun _ => rfl) (fun _ => rfl) (fun xa xd y h => ⟨fuel, (zvd fuel xa xd).trans h⟩)
abbrev zbX := Option ((Int × (Int × (Int × SumY))) × ((Bool × Unit) × Unit))
def zfw (fuel : Nat) : Tab := Tab.of [] []
def zog : List Norm := [⟨[6, 2, 1, 4], [], [], []⟩]
noncomputable def zhQ : C := irOf Try.prog Try.f21 [] zog []
def zfx : List (Nat × Option (Nat × Bool)) := [(4, some (10, true)), (5, none)]
abbrev zve : Sx := .agg (.dat I6 (.dat (Kd.list KE) (.dat I6 (.dat I6 (.dat I6 .nil))))) (.grp (.dat I6 .nil) .nil)
abbrev zvf : Sx := .agg (.dat I6 (.dat I6 (.dat I6 (.dat (Kd.list (Kd.list I6)) (.dat (Kd.list I6) (.dat (Kd.list KP) (.dat I6 (.dat I6 (.dat (Kd.list KP) (.dat I6 .nil)))))))))) (.grp (.dat Kd.bool .nil) .nil)
abbrev zbo : LF := .pure zve zvf false
abbrev zcK := (Int) × (Int) × (Int) × (List EY) × (Int) × (Int) × (Int) × (Int) × (Int) × (Int) × (Int) × (Int) × (Int)
def zoh (v : zcK) : Env × Heap := ([(6, SV.int .i64 v.1), (2, SV.ptr 0 0), (1, SV.int .i64 v.2.1), (4, SV.ptr 1 0)], [Blk.cells [SV.int .i64 v.2.2.1, SV.es KE v.2.2.2.1, SV.int .i64 v.2.2.2.2.1, SV.int .i64 v.2.2.2.2.2.1, SV.int .i64 v.2.2.2.2.2.2.1] 0 5, Blk.cells [SV.int .i64 v.2.2.2.2.2.2.2.1, SV.int .i64 v.2.2.2.2.2.2.2.2.1, SV.int .i64 v.2.2.2.2.2.2.2.2.2.1, SV.nils, SV.nils, SV.nils, SV.int .i64 v.2.2.2.2.2.2.2.2.2.2.1, SV.int .i64 v.2.2.2.2.2.2.2.2.2.2.2.1, SV.nils, SV.int .i64 v.2.2.2.2.2.2.2.2.2.2.2.2] 0 10])
def zfy (fuel : Nat) (g0 : zcK → zbX) (v : zcK) : zbX :=
 cond (decide (v.1 < (zz (List.length v.2.2.2.1))))
 (tst (decide (0 ≤ v.1)) <|
 tst (decide (v.1 < (zz (List.length v.2.2.2.1)))) <|
 cond ((List.getD v.2.2.2.1 (Int.toNat v.1) (0, (0, (0, ((([], ()), (([], ()), (([], (0, (0, ()))), (([], (0, ())), ())))), ()))))).1 == v.2.1)
 (tst (decide (0 ≤ v.1)) <|
 tst (decide (v.1 < (zz (List.length v.2.2.2.1)))) <|
 some ((((List.getD v.2.2.2.1 (Int.toNat v.1) (0, (0, (0, ((([], ()), (([], ()), (([], (0, (0, ()))), (([], (0, ())), ())))), ()))))).1, (List.getD v.2.2.2.1 (Int.toNat v.1) (0, (0, (0, ((([], ()), (([], ()), (([], (0, (0, ()))), (([], (0, ())), ())))), ()))))).2.1, (List.getD v.2.2.2.1 (Int.toNat v.1) (0, (0, (0, ((([], ()), (([], ()), (([], (0, (0, ()))), (([], (0, ())), ())))), ()))))).2.2.1, (List.getD v.2.2.2.1 (Int.toNat v.1) (0, (0, (0, ((([], ()), (([], ()), (([], (0, (0, ()))), (([], (0, ())), ())))), ()))))).2.2.2.1.1.1, (List.getD v.2.2.2.1 (Int.toNat v.1) (0, (0, (0, ((([], ()), (([], ()), (([], (0, (0, ()))), (([], (0, ())), ())))), ()))))).2.2.2.1.2.1.1, (List.getD v.2.2.2.1 (Int.toNat v.1) (0, (0, (0, ((([], ()), (([], ()), (([], (0, (0, ()))), (([], (0, ())), ())))), ()))))).2.2.2.1.2.2.1.1, (List.getD v.2.2.2.1 (Int.toNat v.1) (0, (0, (0, ((([], ()), (([], ()), (([], (0, (0, ()))), (([], (0, ())), ())))), ()))))).2.2.2.1.2.2.1.2.1, (List.getD v.2.2.2.1 (Int.toNat v.1) (0, (0, (0, ((([], ()), (([], ()), (([], (0, (0, ()))), (([], (0, ())), ())))), ()))))).2.2.2.1.2.2.1.2.2.1, (List.getD v.2.2.2.1 (Int.toNat v.1) (0, (0, (0, ((([], ()), (([], ()), (([], (0, (0, ()))), (([], (0, ())), ())))), ()))))).2.2.2.1.2.2.2.1.1, (List.getD v.2.2.2.1 (Int.toNat v.1) (0, (0, (0, ((([], ()), (([], ()), (([], (0, (0, ()))), (([], (0, ())), ())))), ()))))).2.2.2.1.2.2.2.1.2.1, ()), (true, ()), ())))
 (g0 (w64 (v.1 + (1 : Int)), v.2.1, v.2.2.1, v.2.2.2.1, v.2.2.2.2.1, v.2.2.2.2.2.1, v.2.2.2.2.2.2.1, v.2.2.2.2.2.2.2.1, v.2.2.2.2.2.2.2.2.1, v.2.2.2.2.2.2.2.2.2.1, v.2.2.2.2.2.2.2.2.2.2.1, v.2.2.2.2.2.2.2.2.2.2.2.1, v.2.2.2.2.2.2.2.2.2.2.2.2)))
 (some ((((0 : Int), (0 : Int), (0 : Int), [], [], [], (0 : Int), (0 : Int), [], (0 : Int), ()), (false, ()), ())))
def zhR (fuel : Nat) (g0 : zcK → zbX) : zcK → zbX := zfy fuel g0
theorem zvg (fuel : Nat) (G) : zhQ.lp (zfw fuel) 0 fuel G (endX zfx zbo) 0 zoh = iter (zhR fuel) fuel := C.lp_iter fun g v => by kernel_rfl
def zoi (fuel : Nat) (X0 : zcK → zbX) (x0 : Int) (x1 : List EY) (x2 : Int) (x3 : Int) (x4 : Int) (x5 : Int) : zbX :=
 X0 ((0 : Int), x5, x0, x1, x2, x3, x4, (0 : Int), (0 : Int), (0 : Int), (0 : Int), (0 : Int), (0 : Int))
def zfz (fuel : Nat) (z : (NY × ((Int × Unit) × Unit))) : zbX := zoi fuel (iter (zhR fuel) fuel) z.1.1 z.1.2.1 z.1.2.2.1 z.1.2.2.2.1 z.1.2.2.2.2.1 z.2.1.1
theorem zvh (fuel : Nat) (xa : zbo.rt.T) (xd : zbo.D.T) : zbo.go (zfw fuel) fuel zhQ zfx xa xd = zfz fuel (zbo.xb (xa, xd)) :=
  (show zbo.go (zfw fuel) fuel zhQ zfx xa xd = zoi fuel (zhQ.lp (zfw fuel) 0 fuel (fun _ _ _ => none) (endX zfx zbo) 0 zoh) xd.1.1 xd.1.2.1 xd.1.2.2.1 xd.1.2.2.2.1 xd.1.2.2.2.2.1 xd.2.1.1 by kernel_rfl).trans (by rw [zvg]; rfl)
abbrev zhS (fuel : Nat) : LE := ⟨zbo, zfz fuel⟩
theorem zoj (fuel : Nat) : EntryOK Try.prog 21 (zhS fuel).te := okF (T := zfw fuel) (fn := Try.f21) (le := zhS fuel) (frz := []) (ann := zog) (cuts := []) (rv := zfx) (TabOK.of (entNil) (methNil)) mixed (by kernel_rfl) (by kernel_rfl) (by kernel_rfl) (fun _ => rfl) (fun _ => rfl) (fun xa xd y h => ⟨fuel, (zvh fuel xa xd).trans h⟩)
def zok (fuel : Nat) : Tab := Tab.of [] []
def zol : List Norm := []
noncomputable def zvi : C := irOf Try.prog Try.f14 [] zol []
def zom : List (Nat × Option (Nat × Bool)) := [(4, none)]
abbrev zvj : Sx := .grp (.dat I6 .nil) (.grp (.dat I6 .nil) .nil)
abbrev zvk : Sx := .grp (.dat I6 .nil) .nil
abbrev zfA : LF := .pure zvj zvk true
def zvl (fuel : Nat) (x0 : Int) (x1 : Int) : Option ((Int × Unit) × Unit) :=
 some (((w64 (w64 (x0 * (5 : Int)) + x1), ()), ()))
def zS (fuel : Nat) (z : ((Int × Unit) × ((Int × Unit) × Unit))) : Option ((Int × Unit) × Unit) := zvl fuel z.1.1 z.2.1.1
theorem zvm (fuel : Nat) (xa : zfA.rt.T) (xd : zfA.D.T) : zfA.go (zok fuel) fuel zvi zom xa xd = zS fuel (zfA.xb (xa, xd)) := by kernel_rfl
abbrev zbY (fuel : Nat) : LE := ⟨zfA, zS fuel⟩
theorem zfB (fuel : Nat) : EntryOK Try.prog 14 (zbY fuel).te := okF (T := zok fuel) (fn := Try.f14) (le := zbY fuel) (frz := []) (ann := zol) (cuts := []) (rv := zom) (TabOK.of (entNil) (methNil)) mixed (by kernel_rfl) (by kernel_rfl) (by kernel_rfl) (fun _ => rfl) (fun _ => rfl) (fun xa xd y h => ⟨fuel, (zvm fuel xa xd).trans h⟩)
end Go.Proofs.Ytljojacnjjgceaa.Den
