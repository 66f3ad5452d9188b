/- Sums over knots: what adding and squeezing do to them; the joined rank is in form. -/
import Derived.Test.YtapicafncjajnaaQ7
namespace Go.Proofs.Ytapicafncjajnaa.Den
open Go
set_option linter.unusedVariables false
set_option linter.unusedSimpArgs false

def wsum (p : Nat → Bool) : Nat → List Int → Int
  | _, [] => 0
  | i, x :: r => (if p i = true then x else 0) + wsum p (i + 1) r
def ksum (p : Nat → Bool) : List Knot → Int
  | [] => 0
  | k :: r => (if p k.1.toNat = true then k.2.1 else 0) + ksum p r
abbrev yes : Nat → Bool := fun _ => true

theorem wsum_set (p : Nat → Bool) (x : Int) : ∀ {l : List Int} {i j : Nat}, j < l.length → wsum p i (l.set j x) = wsum p i l + (if p (i + j) = true then x - l.getD j 0 else 0)
  | [], i, j, h => by simp at h
  | y :: l, i, 0, h => by
    simp only [List.set_cons_zero, wsum, Nat.add_zero, List.getD_cons_zero]
    split <;> omega
  | y :: l, i, j + 1, h => by
    simp only [List.set_cons_succ, wsum, List.getD_cons_succ]
    rw [wsum_set p x (by simpa using h), show i + 1 + j = i + (j + 1) from by omega]
    omega

theorem getD_set {l : List Int} {i j : Nat} {x : Int} (h : i < l.length) : (l.set i x).getD j 0 = if i = j then x else l.getD j 0 := by
  simp only [List.getD_eq_getElem?_getD]
  by_cases e : i = j
  · subst e; rw [List.getElem?_set_self h, if_pos rfl]; rfl
  · rw [List.getElem?_set_ne e, if_neg e]

theorem wsum_nonneg {p : Nat → Bool} : ∀ {l : List Int} {i : Nat}, (∀ j, 0 ≤ l.getD j 0) → 0 ≤ wsum p i l
  | [], i, h => Int.le_refl _
  | x :: l, i, h => by
    have h0 : 0 ≤ x := h 0
    have := wsum_nonneg (p := p) (l := l) (i := i + 1) fun j => h (j + 1)
    simp only [wsum]; split <;> omega
theorem getD_le_wsum : ∀ {l : List Int} {i j : Nat}, (∀ j, 0 ≤ l.getD j 0) → l.getD j 0 ≤ wsum yes i l
  | [], i, j, h => by simp [wsum]
  | x :: l, i, 0, h => by
    have := wsum_nonneg (p := yes) (l := l) (i := i + 1) fun j => h (j + 1)
    simp only [wsum, List.getD_cons_zero, if_true]; omega
  | x :: l, i, j + 1, h => by
    have h0 : 0 ≤ x := h 0
    have := getD_le_wsum (l := l) (i := i + 1) (j := j) fun j => h (j + 1)
    simp only [wsum, List.getD_cons_succ, if_true]; omega
theorem getD2_le_wsum : ∀ {l : List Int} {i j k : Nat}, j < k → (∀ j, 0 ≤ l.getD j 0) → l.getD j 0 + l.getD k 0 ≤ wsum yes i l
  | [], i, j, k, hjk, h => by simp [wsum]
  | x :: l, i, 0, k + 1, hjk, h => by
    have := getD_le_wsum (l := l) (i := i + 1) (j := k) fun j => h (j + 1)
    simp only [wsum, List.getD_cons_zero, List.getD_cons_succ, if_true]; omega
  | x :: l, i, j + 1, k + 1, hjk, h => by
    have h0 : 0 ≤ x := h 0
    have := getD2_le_wsum (l := l) (i := i + 1) (j := j) (k := k) (by omega) fun j => h (j + 1)
    simp only [wsum, List.getD_cons_succ, if_true]; omega
theorem wsum_one : ∀ {l : List Int} {i j : Nat}, wsum (fun k => k == i + j) i l = l.getD j 0
  | [], i, j => by simp [wsum]
  | x :: l, i, 0 => by
    have : ∀ {l : List Int} {k : Nat}, i < k → wsum (fun m => m == i + 0) k l = 0 := by
      intro l
      induction l with
      | nil => intro k _; rfl
      | cons y l ih =>
        intro k hk
        have e : (k == i + 0) = false := by simp; omega
        show (if (k == i + 0) = true then y else 0) + wsum (fun m => m == i + 0) (k + 1) l = 0
        rw [e, ih (by omega)]; rfl
    simp only [wsum, List.getD_cons_zero]
    rw [this (by omega)]
    simp
  | x :: l, i, j + 1 => by
    simp only [wsum, List.getD_cons_succ]
    have e : ∀ k, (k == i + (j + 1)) = (k == i + 1 + j) := fun k => by rw [show i + (j + 1) = i + 1 + j from by omega]
    have : (i == i + (j + 1)) = false := by simp
    simp only [this]
    rw [show (fun k => k == i + (j + 1)) = fun k => k == i + 1 + j from funext e, wsum_one]
    simp

/-- Numbers at knots: none is below nothing. -/
structure NumsP (a : List Int) (top : Int) : Prop where
  len : a.length = 128
  nn : ∀ j, 0 ≤ a.getD j 0
  top : wsum yes 0 a ≤ top

theorem wsum_zeros (p : Nat → Bool) : wsum p 0 zeros = 0 := by
  have : ∀ (n i : Nat), wsum p i (List.replicate n (0 : Int)) = 0 := by
    intro n
    induction n with
    | zero => intro i; rfl
    | succ n ih => intro i; simp [List.replicate_succ, wsum, ih]
  exact this 128 0

theorem zeros_p : NumsP zeros 0 where
  len := List.length_replicate ..
  nn j := by
    simp only [zeros, List.getD_eq_getElem?_getD, List.getElem?_replicate]
    split <;> simp
  top := by rw [wsum_zeros]; exact Int.le_refl _
theorem numsGo_sum : ∀ {ks : List Knot} {a : List Int} {top : Int}, GoodK ks → NumsP a top → 0 ≤ top → top + ksum yes ks ≤ 1000000000000 →
    NumsP (numsGo ks a) (top + ksum yes ks) ∧ ∀ p, wsum p 0 (numsGo ks a) = wsum p 0 a + ksum p ks
  | [], a, top, hg, ha, h0, ht => ⟨by simpa [numsGo, ksum] using ha, fun p => by simp [numsGo, ksum]⟩
  | k :: r, a, top, hg, ha, h0, ht => by
    have hk := hg k (by simp)
    have hkr : ∀ {r : List Knot}, GoodK r → 0 ≤ ksum yes r := by
      intro r
      induction r with
      | nil => intro _; exact Int.le_refl _
      | cons x r ih => intro hg; have := ih fun y hy => hg y (by simp [hy]); have := hg x (by simp); simp only [ksum, if_true]; omega
    have hr := hkr (r := r) fun y hy => hg y (by simp [hy])
    simp only [ksum, if_true] at ht
    have hle := getD_le_wsum (l := a) (i := 0) (j := k.1.toNat) ha.nn
    have h1 := ha.nn k.1.toNat
    have h2 := ha.top
    have hlen := ha.len
    have e : w64 (a.getD k.1.toNat 0 + k.2.1) = a.getD k.1.toNat 0 + k.2.1 := by rw [w64_id] <;> omega
    have hs : ∀ p, wsum p 0 (a.set k.1.toNat (a.getD k.1.toNat 0 + k.2.1)) = wsum p 0 a + (if p k.1.toNat = true then k.2.1 else 0) := fun p => by
      rw [wsum_set p _ (by omega), Nat.zero_add]; split <;> omega
    have ha' : NumsP (a.set k.1.toNat (a.getD k.1.toNat 0 + k.2.1)) (top + k.2.1) := {
      len := by simpa using hlen
      nn := fun j => by
        rw [getD_set (by omega)]
        split
        · omega
        · exact ha.nn j
      top := by rw [hs]; simp only [if_true]; omega }
    have ih := numsGo_sum (ks := r) (a := a.set k.1.toNat (a.getD k.1.toNat 0 + k.2.1)) (top := top + k.2.1) (fun y hy => hg y (by simp [hy])) ha' (by omega) (by omega)
    simp only [numsGo, ksum, e, if_true]
    refine ⟨?_, fun p => by rw [ih.2 p, hs p]; omega⟩
    rw [← Int.add_assoc]; exact ih.1

theorem sq1_sum {a : List Int} {top all : Int} {n : Nat} (ha : NumsP a top) (ht : top ≤ 1000000000000) (h1 : 1 ≤ n) (h2 : n ≤ 63) :
    NumsP (sq1 all n a) top ∧ (∃ l h : Int, 0 ≤ l ∧ 0 ≤ h ∧ ∀ p, wsum p 0 (sq1 all n a) = wsum p 0 a + (if p n = true then l + h else 0) - (if p (2 * n) = true then l else 0) - (if p (2 * n + 1) = true then h else 0)) ∧
      ((∀ j, 1 ≤ j → j < 64 → a.getD j 0 ≤ w64 (all.tdiv 8)) → 0 ≤ w64 (all.tdiv 8) → ∀ j, 1 ≤ j → j < 64 → (sq1 all n a).getD j 0 ≤ w64 (all.tdiv 8)) := by
  have hlen := ha.len
  have hl := ha.nn (2 * n)
  have hh := ha.nn (2 * n + 1)
  have hn := ha.nn n
  have htop := ha.top
  have b1 := getD2_le_wsum (l := a) (i := 0) (j := 2 * n) (k := 2 * n + 1) (by omega) ha.nn
  have b2 := getD_le_wsum (l := a) (i := 0) (j := n) ha.nn
  have e1 : w64 (a.getD (2 * n) 0 + a.getD (2 * n + 1) 0) = a.getD (2 * n) 0 + a.getD (2 * n + 1) 0 := by rw [w64_id] <;> omega
  have e2 : w64 (a.getD (2 * n) 0 + a.getD (2 * n + 1) 0 + a.getD n 0) = a.getD (2 * n) 0 + a.getD (2 * n + 1) 0 + a.getD n 0 := by rw [w64_id] <;> omega
  have e3 : w64 (a.getD n 0 + (a.getD (2 * n) 0 + a.getD (2 * n + 1) 0)) = a.getD n 0 + (a.getD (2 * n) 0 + a.getD (2 * n + 1) 0) := by rw [w64_id] <;> omega
  unfold sq1
  rw [e1, e2, e3]
  split
  · rename_i hc
    have g1 : ∀ j, (((a.set n (a.getD n 0 + (a.getD (2 * n) 0 + a.getD (2 * n + 1) 0))).set (2 * n) 0).set (2 * n + 1) 0).getD j 0 = if 2 * n + 1 = j then 0 else if 2 * n = j then 0 else if n = j then a.getD n 0 + (a.getD (2 * n) 0 + a.getD (2 * n + 1) 0) else a.getD j 0 := fun j => by
      rw [getD_set (by first | omega | (simp only [List.length_set]; omega)), getD_set (by first | omega | (simp only [List.length_set]; omega)), getD_set (by omega)]
    have hs : ∀ p, wsum p 0 (((a.set n (a.getD n 0 + (a.getD (2 * n) 0 + a.getD (2 * n + 1) 0))).set (2 * n) 0).set (2 * n + 1) 0) =
        wsum p 0 a + (if p n = true then a.getD (2 * n) 0 + a.getD (2 * n + 1) 0 else 0) - (if p (2 * n) = true then a.getD (2 * n) 0 else 0) - (if p (2 * n + 1) = true then a.getD (2 * n + 1) 0 else 0) := by
      intro p
      rw [wsum_set p 0 (by first | omega | (simp only [List.length_set]; omega)), wsum_set p 0 (by first | omega | (simp only [List.length_set]; omega)), wsum_set p _ (by omega), getD_set (by first | omega | (simp only [List.length_set]; omega)), getD_set (by first | omega | (simp only [List.length_set]; omega)), getD_set (by first | omega | (simp only [List.length_set]; omega))]
      rw [if_neg (show ¬ 2 * n = 2 * n + 1 by omega), if_neg (show ¬ n = 2 * n + 1 by omega), if_neg (show ¬ n = 2 * n by omega)]
      simp only [Nat.zero_add]
      split <;> split <;> split <;> omega
    refine ⟨⟨by simpa using hlen, fun j => ?_, ?_⟩, ⟨_, _, hl, hh, hs⟩, fun hb h0 j hj1 hj2 => ?_⟩
    · rw [g1]; repeat' split
      all_goals first | omega | exact ha.nn j
    · rw [hs]; simp only [if_true]; omega
    · rw [g1]; repeat' split
      all_goals first | omega | exact hb j hj1 hj2
  · exact ⟨ha, ⟨0, 0, Int.le_refl _, Int.le_refl _, fun p => by simp⟩, fun hb _ => hb⟩

theorem sqGo_sum {all top : Int} (ht : top ≤ 1000000000000) : ∀ {n : Nat} {a : List Int}, n ≤ 63 → NumsP a top → NumsP (sqGo all n a) top ∧
      (∀ p : Nat → Bool, (∀ m, 1 ≤ m → m ≤ 63 → p m = true → p (2 * m) = true ∧ p (2 * m + 1) = true) → wsum p 0 (sqGo all n a) ≤ wsum p 0 a) ∧
      (∀ p : Nat → Bool, (∀ m, 1 ≤ m → m ≤ 63 → p (2 * m) = true ∨ p (2 * m + 1) = true → p m = true) → wsum p 0 a ≤ wsum p 0 (sqGo all n a)) ∧
      ((∀ j, 1 ≤ j → j < 64 → a.getD j 0 ≤ w64 (all.tdiv 8)) → 0 ≤ w64 (all.tdiv 8) → ∀ j, 1 ≤ j → j < 64 → (sqGo all n a).getD j 0 ≤ w64 (all.tdiv 8))
  | 0, a, hn, ha => ⟨ha, fun p _ => Int.le_refl _, fun p _ => Int.le_refl _, fun hb _ => hb⟩
  | n + 1, a, hn, ha => by
    obtain ⟨h1, ⟨l, h, hl, hh, hs⟩, h3⟩ := sq1_sum (all := all) (n := n + 1) ha ht (by omega) (by omega)
    obtain ⟨i1, i2, i3, i4⟩ := sqGo_sum ht (n := n) (by omega) h1
    refine ⟨i1, fun p hp => Int.le_trans (i2 p hp) ?_, fun p hp => Int.le_trans ?_ (i3 p hp), fun hb h0 => i4 (h3 hb h0) h0⟩
    · rw [hs p]
      have := hp (n + 1) (by omega) (by omega)
      by_cases c : p (n + 1) = true
      · obtain ⟨c1, c2⟩ := this c
        simp only [c, c1, c2, if_true]; omega
      · rw [if_neg c]
        split <;> split <;> omega
    · rw [hs p]
      have := hp (n + 1) (by omega) (by omega)
      by_cases c : p (n + 1) = true
      · simp only [c, if_true]
        split <;> split <;> omega
      · have c1 : ¬ p (2 * (n + 1)) = true := fun h => c (this (.inl h))
        have c2 : ¬ p (2 * (n + 1) + 1) = true := fun h => c (this (.inr h))
        simp only [c, c1, c2]; simp

theorem ksum_list {p : Nat → Bool} : ∀ {l : List Int} {i : Nat}, (∀ j, 0 ≤ l.getD j 0) → ksum p (listGo i l) = wsum p i l
  | [], i, h => rfl
  | x :: l, i, h => by
    have h0 : 0 ≤ x := h 0
    have ih := ksum_list (p := p) (l := l) (i := i + 1) fun j => h (j + 1)
    unfold listGo
    split
    · simp only [ksum, wsum, ih, Int.toNat_natCast]
    · have : x = 0 := by omega
      subst this
      simp [wsum, ih]

theorem ok_list {all : Int} (hall : all ≤ 2000) : ∀ {l : List Int} {i : Nat} {before sum : Int}, before < i → 1 ≤ i → i + l.length ≤ 128 → (∀ j, 0 ≤ l.getD j 0) → (∀ j, i + j < 64 → l.getD j 0 ≤ w64 (all.tdiv 8)) →
    0 ≤ sum → sum + wsum yes i l = all → okGo all (listGo i l) before sum = true
  | [], i, before, sum, h1, h2, h3, h4, h5, h6, h7 => by
    simp only [wsum] at h7
    simp [listGo, okGo]; omega
  | x :: l, i, before, sum, h1, h2, h3, h4, h5, h6, h7 => by
    have hx : 0 ≤ x := h4 0
    have hw := wsum_nonneg (p := yes) (l := l) (i := i + 1) fun j => h4 (j + 1)
    simp only [wsum, if_true] at h7
    simp only [List.length_cons] at h3
    have ih := fun (b s : Int) (hb : b < ((i + 1 : Nat) : Int)) (hs : 0 ≤ s) (e : s + wsum yes (i + 1) l = all) => ok_list hall (l := l) (i := i + 1) (before := b) (sum := s) hb (by omega) (by omega) (fun j => h4 (j + 1)) (fun j hj => h5 (j + 1) (by omega)) hs e
    unfold listGo
    split
    · unfold okGo
      have e : w64 (sum + x) = sum + x := by rw [w64_id] <;> omega
      have h50 : i < 64 → x ≤ w64 (all.tdiv 8) := fun h => h5 0 (by omega)
      rw [if_neg (by
        show ¬ ((i : Int) ≤ before ∨ 128 ≤ (i : Int) ∨ x < 1 ∨ 2000 < x ∨ ((i : Int) < 64 ∧ w64 (all.tdiv 8) < x))
        rintro (h | h | h | h | ⟨h, h'⟩)
        · omega
        · omega
        · omega
        · omega
        · have := h50 (by omega); omega), e]
      exact ih _ _ (by show (i : Int) < ((i + 1 : Nat) : Int); omega) (by omega) (by omega)
    · have : x = 0 := by omega
      exact ih _ _ (by omega) h6 (by omega)

theorem w64_div {all : Int} (h0 : 0 ≤ all) (h1 : all ≤ 2000) : w64 (all.tdiv 8) = all / 8 := by
  rw [Int.tdiv_eq_ediv_of_nonneg h0, w64_id] <;> omega

/-- What a rank in form is. -/
theorem okGo_sum {all : Int} (hall : 0 ≤ all) (hall2 : all ≤ 2000) : ∀ {ks : List Knot} {before sum : Int}, 0 ≤ before → before ≤ 127 → 0 ≤ sum → sum + 2000 * (127 - before) ≤ 1000000 → okGo all ks before sum = true →
    sum + ksum yes ks = all ∧ (∀ j : Nat, (j : Int) ≤ before → ksum (fun k => k == j) ks = 0) ∧ (∀ j : Nat, j < 64 → ksum (fun k => k == j) ks ≤ all / 8) ∧ (ks.length : Int) ≤ 127 - before
  | [], before, sum, h0, h1, h2, h3, h => by
    simp [okGo] at h
    subst h
    refine ⟨by simp [ksum], fun j _ => rfl, fun j _ => ?_, by simp; omega⟩
    show (0 : Int) ≤ _; omega
  | k :: r, before, sum, h0, h1, h2, h3, h => by
    unfold okGo at h
    split at h
    · cases h
    · rename_i c
      have e : w64 (sum + k.2.1) = sum + k.2.1 := by rw [w64_id] <;> omega
      rw [e] at h
      have hd := w64_div hall hall2
      obtain ⟨i1, i2, i3, i4⟩ := okGo_sum hall hall2 (by omega) (by omega) (by omega) (by omega) h
      refine ⟨by simp only [ksum, if_true]; omega, fun j hj => ?_, fun j hj => ?_, by simp; omega⟩
      · have : ¬ (k.1.toNat == j) = true := by simp; omega
        simp only [ksum, this]
        rw [i2 j (by omega)]; simp
      · by_cases cj : k.1.toNat = j
        · have : (k.1.toNat == j) = true := by simp [cj]
          simp only [ksum, this, if_true]
          rw [i2 j (by omega)]
          omega
        · have : ¬ (k.1.toNat == j) = true := by simpa using cj
          simp only [ksum, this]
          have := i3 j hj
          simp; omega

structure InForm (ks : List Knot) (all : Int) : Prop where
  good : GoodK ks
  lo : 0 ≤ all
  hi : all ≤ 2000
  sum : ksum yes ks = all
  part : ∀ j : Nat, j < 64 → ksum (fun k => k == j) ks ≤ all / 8
  len : ks.length ≤ 127

theorem okB_form {ks : List Knot} {all : Int} (h : okB ks all = true) : InForm ks all := by
  have hg := okB_good h
  have ha := okB_all h
  unfold okB at h
  rw [if_neg (by omega)] at h
  obtain ⟨h1, _, h3, h4⟩ := okGo_sum ha.1 ha.2 (Int.le_refl 0) (by omega) (Int.le_refl 0) (by omega) h
  exact ⟨hg, ha.1, ha.2, by omega, h3, by omega⟩

/-- Squeezed sums of two ranks in form. -/
theorem sumK_form {ka kb : List Knot} {alla allb : Int} (fa : InForm ka alla) (gb : GoodK kb) (sb : ksum yes kb = allb) (b0 : 0 ≤ allb) (pb : ∀ j : Nat, j < 64 → ksum (fun k => k == j) kb ≤ allb / 8) (hs : alla + allb ≤ 2000) :
    okB (sumK ka kb (alla + allb)) (alla + allb) = true ∧
    (∀ p : Nat → Bool, (∀ m, 1 ≤ m → m ≤ 63 → p m = true → p (2 * m) = true ∧ p (2 * m + 1) = true) → ksum p (sumK ka kb (alla + allb)) ≤ ksum p ka + ksum p kb) ∧
    (∀ p : Nat → Bool, (∀ m, 1 ≤ m → m ≤ 63 → p (2 * m) = true ∨ p (2 * m + 1) = true → p m = true) → ksum p ka + ksum p kb ≤ ksum p (sumK ka kb (alla + allb))) := by
  have fa1 := fa.lo
  have fa2 := fa.sum
  obtain ⟨n1, w1⟩ := numsGo_sum (ks := ka) fa.good zeros_p (Int.le_refl 0) (by omega)
  obtain ⟨n2, w2⟩ := numsGo_sum (ks := kb) gb n1 (by omega) (by omega)
  have hw : ∀ p, wsum p 0 (numsGo kb (numsGo ka zeros)) = ksum p ka + ksum p kb := fun p => by rw [w2, w1, wsum_zeros]; omega
  obtain ⟨s1, s2, s3, s4⟩ := sqGo_sum (all := alla + allb) (top := 0 + ksum yes ka + ksum yes kb) (by omega) (n := 63) (a := numsGo kb (numsGo ka zeros)) (by omega) n2
  have hd := w64_div (all := alla + allb) (by omega) hs
  have hpart : ∀ j, 1 ≤ j → j < 64 → (numsGo kb (numsGo ka zeros)).getD j 0 ≤ w64 ((alla + allb).tdiv 8) := fun j hj1 hj2 => by
    have := wsum_one (l := numsGo kb (numsGo ka zeros)) (i := 0) (j := j)
    rw [Nat.zero_add, hw] at this
    rw [← this, hd]
    have := fa.part j hj2
    have := pb j hj2
    omega
  have s4' := s4 hpart (by rw [hd]; omega)
  have hk : ∀ p, ksum p (sumK ka kb (alla + allb)) = wsum p 0 (sqGo (alla + allb) 63 (numsGo kb (numsGo ka zeros))) := fun p => ksum_list s1.nn
  refine ⟨?_, fun p hp => by rw [hk, ← hw]; exact s2 p hp, fun p hp => by rw [hk, ← hw]; exact s3 p hp⟩
  have hz : (sqGo (alla + allb) 63 (numsGo kb (numsGo ka zeros))).getD 0 0 = 0 := by
    rw [sqGo_zero, numsGo_zero gb, numsGo_zero fa.good]; decide
  have htot : wsum yes 0 (sqGo (alla + allb) 63 (numsGo kb (numsGo ka zeros))) = alla + allb := by
    have h1 := s2 yes (fun _ _ _ _ => ⟨rfl, rfl⟩)
    have h2 := s3 yes (fun _ _ _ _ => rfl)
    have h3 := hw yes
    omega
  unfold okB sumK
  rw [if_neg (by omega), listGo_zero (by omega)]
  obtain ⟨x, r, hxr⟩ : ∃ x r, sqGo (alla + allb) 63 (numsGo kb (numsGo ka zeros)) = x :: r := by
    cases h : sqGo (alla + allb) 63 (numsGo kb (numsGo ka zeros)) with
    | nil => have := s1.len; rw [h] at this; simp at this
    | cons x r => exact ⟨x, r, rfl⟩
  have hl := s1.len
  have hnn := s1.nn
  rw [hxr] at hz htot hl hnn s4' ⊢
  have hx : x = 0 := hz
  subst hx
  simp only [wsum, if_true, List.length_cons] at htot hl
  rw [List.drop_succ_cons, List.drop_zero]
  exact ok_list hs (by omega) (by omega) (by omega) (fun j => hnn (j + 1)) (fun j hj => s4' (j + 1) (by omega) (by omega)) (by omega) (by omega)
end Go.Proofs.Ytapicafncjajnaa.Den
