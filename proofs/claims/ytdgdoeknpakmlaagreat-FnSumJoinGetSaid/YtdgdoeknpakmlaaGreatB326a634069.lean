/- Part 14 of the texts behind the row. -/
import Derived.Test.YtdgdoeknpakmlaaGreatBb5e709a685
set_option linter.unusedVariables false
set_option linter.unusedSimpArgs false
namespace Go.Proofs.YtdgdoeknpakmlaaGreat.Den
open Go
set_option linter.unusedVariables false
set_option linter.unusedSimpArgs false
def wsum (p : Nat → Bool) : Nat → List Int → Int
  | _, [] => 0
  | i, x :: r => (if p i = true then x else 0) + wsum p (i + 1) r
def ksum (p : Nat → Bool) : List Knot → Int
  | [] => 0
  | k :: r => (if p k.1.toNat = true then k.2.1 else 0) + ksum p r
abbrev yes : Nat → Bool := fun _ => true
theorem wsum_set (p : Nat → Bool) (x : Int) : ∀ {l : List Int} {i j : Nat}, j < l.length → wsum p i (l.set j x) = wsum p i l + (if p (i + j) = true then x - l.getD j 0 else 0)
  | [], i, j, h => by simp at h
  | y :: l, i, 0, h => by
    simp only [List.set_cons_zero, wsum, Nat.add_zero, List.getD_cons_zero]
    split <;> omega
  | y :: l, i, j + 1, h => by
    simp only [List.set_cons_succ, wsum, List.getD_cons_succ]
    rw [wsum_set p x (by simpa using h), show i + 1 + j = i + (j + 1) from by omega]
    omega
theorem getD_set {l : List Int} {i j : Nat} {x : Int} (h : i < l.length) : (l.set i x).getD j 0 = if i = j then x else l.getD j 0 := by
  simp only [List.getD_eq_getElem?_getD]
  by_cases e : i = j
  · subst e; rw [List.getElem?_set_self h, if_pos rfl]; rfl
  · rw [List.getElem?_set_ne e, if_neg e]
theorem wsum_nonneg {p : Nat → Bool} : ∀ {l : List Int} {i : Nat}, (∀ j, 0 ≤ l.getD j 0) → 0 ≤ wsum p i l
  | [], i, h => Int.le_refl _
  | x :: l, i, h => by
    have h0 : 0 ≤ x := h 0
    have := wsum_nonneg (p := p) (l := l) (i := i + 1) fun j => h (j + 1)
    simp only [wsum]; split <;> omega
theorem getD_le_wsum : ∀ {l : List Int} {i j : Nat}, (∀ j, 0 ≤ l.getD j 0) → l.getD j 0 ≤ wsum yes i l
  | [], i, j, h => by simp [wsum]
  | x :: l, i, 0, h => by
    have := wsum_nonneg (p := yes) (l := l) (i := i + 1) fun j => h (j + 1)
    simp only [wsum, List.getD_cons_zero, if_true]; omega
  | x :: l, i, j + 1, h => by
    have h0 : 0 ≤ x := h 0
    have := getD_le_wsum (l := l) (i := i + 1) (j := j) fun j => h (j + 1)
    simp only [wsum, List.getD_cons_succ, if_true]; omega
theorem getD2_le_wsum : ∀ {l : List Int} {i j k : Nat}, j < k → (∀ j, 0 ≤ l.getD j 0) → l.getD j 0 + l.getD k 0 ≤ wsum yes i l
  | [], i, j, k, hjk, h => by simp [wsum]
  | x :: l, i, 0, k + 1, hjk, h => by
    have := getD_le_wsum (l := l) (i := i + 1) (j := k) fun j => h (j + 1)
    simp only [wsum, List.getD_cons_zero, List.getD_cons_succ, if_true]; omega
  | x :: l, i, j + 1, k + 1, hjk, h => by
    have h0 : 0 ≤ x := h 0
    have := getD2_le_wsum (l := l) (i := i + 1) (j := j) (k := k) (by omega) fun j => h (j + 1)
    simp only [wsum, List.getD_cons_succ, if_true]; omega
theorem wsum_one : ∀ {l : List Int} {i j : Nat}, wsum (fun k => k == i + j) i l = l.getD j 0
  | [], i, j => by simp [wsum]
  | x :: l, i, 0 => by
    have : ∀ {l : List Int} {k : Nat}, i < k → wsum (fun m => m == i + 0) k l = 0 := by
      intro l
      induction l with
      | nil => intro k _; rfl
      | cons y l ih =>
        intro k hk
        have e : (k == i + 0) = false := by simp; omega
        show (if (k == i + 0) = true then y else 0) + wsum (fun m => m == i + 0) (k + 1) l = 0
        rw [e, ih (by omega)]; rfl
    simp only [wsum, List.getD_cons_zero]
    rw [this (by omega)]
    simp
  | x :: l, i, j + 1 => by
    simp only [wsum, List.getD_cons_succ]
    have e : ∀ k, (k == i + (j + 1)) = (k == i + 1 + j) := fun k => by rw [show i + (j + 1) = i + 1 + j from by omega]
    have : (i == i + (j + 1)) = false := by simp
    simp only [this]
    rw [show (fun k => k == i + (j + 1)) = fun k => k == i + 1 + j from funext e, wsum_one]
    simp
structure NumsP (a : List Int) (top : Int) : Prop where
  len : a.length = 128
  nn : ∀ j, 0 ≤ a.getD j 0
  top : wsum yes 0 a ≤ top
theorem wsum_zeros (p : Nat → Bool) : wsum p 0 zeros = 0 := by
  have : ∀ (n i : Nat), wsum p i (List.replicate n (0 : Int)) = 0 := by
    intro n
    induction n with
    | zero => intro i; rfl
    | succ n ih => intro i; simp [List.replicate_succ, wsum, ih]
  exact this 128 0
theorem zeros_p : NumsP zeros 0 where
  len := List.length_replicate ..
  nn j := by
    simp only [zeros, List.getD_eq_getElem?_getD, List.getElem?_replicate]
    split <;> simp
  top := by rw [wsum_zeros]; exact Int.le_refl _
theorem numsGo_sum : ∀ {ks : List Knot} {a : List Int} {top : Int}, GoodK ks → NumsP a top → 0 ≤ top → top + ksum yes ks ≤ 1000000000000 →
    NumsP (numsGo ks a) (top + ksum yes ks) ∧ ∀ p, wsum p 0 (numsGo ks a) = wsum p 0 a + ksum p ks
  | [], a, top, hg, ha, h0, ht => ⟨by simpa [numsGo, ksum] using ha, fun p => by simp [numsGo, ksum]⟩
  | k :: r, a, top, hg, ha, h0, ht => by
    have hk := hg k (by simp)
    have hkr : ∀ {r : List Knot}, GoodK r → 0 ≤ ksum yes r := by
      intro r
      induction r with
      | nil => intro _; exact Int.le_refl _
      | cons x r ih => intro hg; have := ih fun y hy => hg y (by simp [hy]); have := hg x (by simp); simp only [ksum, if_true]; omega
    have hr := hkr (r := r) fun y hy => hg y (by simp [hy])
    simp only [ksum, if_true] at ht
    have hle := getD_le_wsum (l := a) (i := 0) (j := k.1.toNat) ha.nn
    have h1 := ha.nn k.1.toNat
    have h2 := ha.top
    have hlen := ha.len
    have e : w64 (a.getD k.1.toNat 0 + k.2.1) = a.getD k.1.toNat 0 + k.2.1 := by rw [w64_id] <;> omega
    have hs : ∀ p, wsum p 0 (a.set k.1.toNat (a.getD k.1.toNat 0 + k.2.1)) = wsum p 0 a + (if p k.1.toNat = true then k.2.1 else 0) := fun p => by
      rw [wsum_set p _ (by omega), Nat.zero_add]; split <;> omega
    have ha' : NumsP (a.set k.1.toNat (a.getD k.1.toNat 0 + k.2.1)) (top + k.2.1) := {
      len := by simpa using hlen
      nn := fun j => by
        rw [getD_set (by omega)]
        split
        · omega
        · exact ha.nn j
      top := by rw [hs]; simp only [if_true]; omega }
    have ih := numsGo_sum (ks := r) (a := a.set k.1.toNat (a.getD k.1.toNat 0 + k.2.1)) (top := top + k.2.1) (fun y hy => hg y (by simp [hy])) ha' (by omega) (by omega)
    simp only [numsGo, ksum, e, if_true]
    refine ⟨?_, fun p => by rw [ih.2 p, hs p]; omega⟩
    rw [← Int.add_assoc]; exact ih.1
theorem sq1_sum {a : List Int} {top all : Int} {n : Nat} (ha : NumsP a top) (ht : top ≤ 1000000000000) (h1 : 1 ≤ n) (h2 : n ≤ 63) :
    NumsP (sq1 all n a) top ∧ (∃ l h : Int, 0 ≤ l ∧ 0 ≤ h ∧ ∀ p, wsum p 0 (sq1 all n a) = wsum p 0 a + (if p n = true then l + h else 0) - (if p (2 * n) = true then l else 0) - (if p (2 * n + 1) = true then h else 0)) ∧
      ((∀ j, 1 ≤ j → j < 64 → a.getD j 0 ≤ w64 (all.tdiv 8)) → 0 ≤ w64 (all.tdiv 8) → ∀ j, 1 ≤ j → j < 64 → (sq1 all n a).getD j 0 ≤ w64 (all.tdiv 8)) := by
  have hlen := ha.len
  have hl := ha.nn (2 * n)
  have hh := ha.nn (2 * n + 1)
  have hn := ha.nn n
  have htop := ha.top
  have b1 := getD2_le_wsum (l := a) (i := 0) (j := 2 * n) (k := 2 * n + 1) (by omega) ha.nn
  have b2 := getD_le_wsum (l := a) (i := 0) (j := n) ha.nn
  have e1 : w64 (a.getD (2 * n) 0 + a.getD (2 * n + 1) 0) = a.getD (2 * n) 0 + a.getD (2 * n + 1) 0 := by rw [w64_id] <;> omega
  have e2 : w64 (a.getD (2 * n) 0 + a.getD (2 * n + 1) 0 + a.getD n 0) = a.getD (2 * n) 0 + a.getD (2 * n + 1) 0 + a.getD n 0 := by rw [w64_id] <;> omega
  have e3 : w64 (a.getD n 0 + (a.getD (2 * n) 0 + a.getD (2 * n + 1) 0)) = a.getD n 0 + (a.getD (2 * n) 0 + a.getD (2 * n + 1) 0) := by rw [w64_id] <;> omega
  unfold sq1
  rw [e1, e2, e3]
  split
  · rename_i hc
    have g1 : ∀ j, (((a.set n (a.getD n 0 + (a.getD (2 * n) 0 + a.getD (2 * n + 1) 0))).set (2 * n) 0).set (2 * n + 1) 0).getD j 0 = if 2 * n + 1 = j then 0 else if 2 * n = j then 0 else if n = j then a.getD n 0 + (a.getD (2 * n) 0 + a.getD (2 * n + 1) 0) else a.getD j 0 := fun j => by
      rw [getD_set (by first | omega | (simp only [List.length_set]; omega)), getD_set (by first | omega | (simp only [List.length_set]; omega)), getD_set (by omega)]
    have hs : ∀ p, wsum p 0 (((a.set n (a.getD n 0 + (a.getD (2 * n) 0 + a.getD (2 * n + 1) 0))).set (2 * n) 0).set (2 * n + 1) 0) =
        wsum p 0 a + (if p n = true then a.getD (2 * n) 0 + a.getD (2 * n + 1) 0 else 0) - (if p (2 * n) = true then a.getD (2 * n) 0 else 0) - (if p (2 * n + 1) = true then a.getD (2 * n + 1) 0 else 0) := by
      intro p
      rw [wsum_set p 0 (by first | omega | (simp only [List.length_set]; omega)), wsum_set p 0 (by first | omega | (simp only [List.length_set]; omega)), wsum_set p _ (by omega), getD_set (by first | omega | (simp only [List.length_set]; omega)), getD_set (by first | omega | (simp only [List.length_set]; omega)), getD_set (by first | omega | (simp only [List.length_set]; omega))]
      rw [if_neg (show ¬ 2 * n = 2 * n + 1 by omega), if_neg (show ¬ n = 2 * n + 1 by omega), if_neg (show ¬ n = 2 * n by omega)]
      simp only [Nat.zero_add]
      split <;> split <;> split <;> omega
    refine ⟨⟨by simpa using hlen, fun j => ?_, ?_⟩, ⟨_, _, hl, hh, hs⟩, fun hb h0 j hj1 hj2 => ?_⟩
    · rw [g1]; repeat' split
      all_goals first | omega | exact ha.nn j
    · rw [hs]; simp only [if_true]; omega
    · rw [g1]; repeat' split
      all_goals first | omega | exact hb j hj1 hj2
  · exact ⟨ha, ⟨0, 0, Int.le_refl _, Int.le_refl _, fun p => by simp⟩, fun hb _ => hb⟩
theorem sqGo_sum {all top : Int} (ht : top ≤ 1000000000000) : ∀ {n : Nat} {a : List Int}, n ≤ 63 → NumsP a top → NumsP (sqGo all n a) top ∧
      (∀ p : Nat → Bool, (∀ m, 1 ≤ m → m ≤ 63 → p m = true → p (2 * m) = true ∧ p (2 * m + 1) = true) → wsum p 0 (sqGo all n a) ≤ wsum p 0 a) ∧
      (∀ p : Nat → Bool, (∀ m, 1 ≤ m → m ≤ 63 → p (2 * m) = true ∨ p (2 * m + 1) = true → p m = true) → wsum p 0 a ≤ wsum p 0 (sqGo all n a)) ∧
      ((∀ j, 1 ≤ j → j < 64 → a.getD j 0 ≤ w64 (all.tdiv 8)) → 0 ≤ w64 (all.tdiv 8) → ∀ j, 1 ≤ j → j < 64 → (sqGo all n a).getD j 0 ≤ w64 (all.tdiv 8))
  | 0, a, hn, ha => ⟨ha, fun p _ => Int.le_refl _, fun p _ => Int.le_refl _, fun hb _ => hb⟩
  | n + 1, a, hn, ha => by
    obtain ⟨h1, ⟨l, h, hl, hh, hs⟩, h3⟩ := sq1_sum (all := all) (n := n + 1) ha ht (by omega) (by omega)
    obtain ⟨i1, i2, i3, i4⟩ := sqGo_sum ht (n := n) (by omega) h1
    refine ⟨i1, fun p hp => Int.le_trans (i2 p hp) ?_, fun p hp => Int.le_trans ?_ (i3 p hp), fun hb h0 => i4 (h3 hb h0) h0⟩
    · rw [hs p]
      have := hp (n + 1) (by omega) (by omega)
      by_cases c : p (n + 1) = true
      · obtain ⟨c1, c2⟩ := this c
        simp only [c, c1, c2, if_true]; omega
      · rw [if_neg c]
        split <;> split <;> omega
    · rw [hs p]
      have := hp (n + 1) (by omega) (by omega)
      by_cases c : p (n + 1) = true
      · simp only [c, if_true]
        split <;> split <;> omega
      · have c1 : ¬ p (2 * (n + 1)) = true := fun h => c (this (.inl h))
        have c2 : ¬ p (2 * (n + 1) + 1) = true := fun h => c (this (.inr h))
        simp only [c, c1, c2]; simp
theorem ksum_list {p : Nat → Bool} : ∀ {l : List Int} {i : Nat}, (∀ j, 0 ≤ l.getD j 0) → ksum p (listGo i l) = wsum p i l
  | [], i, h => rfl
  | x :: l, i, h => by
    have h0 : 0 ≤ x := h 0
    have ih := ksum_list (p := p) (l := l) (i := i + 1) fun j => h (j + 1)
    unfold listGo
    split
    · simp only [ksum, wsum, ih, Int.toNat_natCast]
    · have : x = 0 := by omega
      subst this
      simp [wsum, ih]
theorem ok_list {all : Int} (hall : all ≤ 2000) : ∀ {l : List Int} {i : Nat} {before sum : Int}, before < i → 1 ≤ i → i + l.length ≤ 128 → (∀ j, 0 ≤ l.getD j 0) → (∀ j, i + j < 64 → l.getD j 0 ≤ w64 (all.tdiv 8)) →
    0 ≤ sum → sum + wsum yes i l = all → okGo all (listGo i l) before sum = true
  | [], i, before, sum, h1, h2, h3, h4, h5, h6, h7 => by
    simp only [wsum] at h7
    simp [listGo, okGo]; omega
  | x :: l, i, before, sum, h1, h2, h3, h4, h5, h6, h7 => by
    have hx : 0 ≤ x := h4 0
    have hw := wsum_nonneg (p := yes) (l := l) (i := i + 1) fun j => h4 (j + 1)
    simp only [wsum, if_true] at h7
    simp only [List.length_cons] at h3
    have ih := fun (b s : Int) (hb : b < ((i + 1 : Nat) : Int)) (hs : 0 ≤ s) (e : s + wsum yes (i + 1) l = all) => ok_list hall (l := l) (i := i + 1) (before := b) (sum := s) hb (by omega) (by omega) (fun j => h4 (j + 1)) (fun j hj => h5 (j + 1) (by omega)) hs e
    unfold listGo
    split
    · unfold okGo
      have e : w64 (sum + x) = sum + x := by rw [w64_id] <;> omega
      have h50 : i < 64 → x ≤ w64 (all.tdiv 8) := fun h => h5 0 (by omega)
      rw [if_neg (by
        show ¬ ((i : Int) ≤ before ∨ 128 ≤ (i : Int) ∨ x < 1 ∨ 2000 < x ∨ ((i : Int) < 64 ∧ w64 (all.tdiv 8) < x))
        rintro (h | h | h | h | ⟨h, h'⟩)
        · omega
        · omega
        · omega
        · omega
        · have := h50 (by omega); omega), e]
      exact ih _ _ (by show (i : Int) < ((i + 1 : Nat) : Int); omega) (by omega) (by omega)
    · have : x = 0 := by omega
      exact ih _ _ (by omega) h6 (by omega)
theorem w64_div {all : Int} (h0 : 0 ≤ all) (h1 : all ≤ 2000) : w64 (all.tdiv 8) = all / 8 := by
  rw [Int.tdiv_eq_ediv_of_nonneg h0, w64_id] <;> omega
theorem okGo_sum {all : Int} (hall : 0 ≤ all) (hall2 : all ≤ 2000) : ∀ {ks : List Knot} {before sum : Int}, 0 ≤ before → before ≤ 127 → 0 ≤ sum → sum + 2000 * (127 - before) ≤ 1000000 → okGo all ks before sum = true →
    sum + ksum yes ks = all ∧ (∀ j : Nat, (j : Int) ≤ before → ksum (fun k => k == j) ks = 0) ∧ (∀ j : Nat, j < 64 → ksum (fun k => k == j) ks ≤ all / 8) ∧ (ks.length : Int) ≤ 127 - before
  | [], before, sum, h0, h1, h2, h3, h => by
    simp [okGo] at h
    subst h
    refine ⟨by simp [ksum], fun j _ => rfl, fun j _ => ?_, by simp; omega⟩
    show (0 : Int) ≤ _; omega
  | k :: r, before, sum, h0, h1, h2, h3, h => by
    unfold okGo at h
    split at h
    · cases h
    · rename_i c
      have e : w64 (sum + k.2.1) = sum + k.2.1 := by rw [w64_id] <;> omega
      rw [e] at h
      have hd := w64_div hall hall2
      obtain ⟨i1, i2, i3, i4⟩ := okGo_sum hall hall2 (by omega) (by omega) (by omega) (by omega) h
      refine ⟨by simp only [ksum, if_true]; omega, fun j hj => ?_, fun j hj => ?_, by simp; omega⟩
      · have : ¬ (k.1.toNat == j) = true := by simp; omega
        simp only [ksum, this]
        rw [i2 j (by omega)]; simp
      · by_cases cj : k.1.toNat = j
        · have : (k.1.toNat == j) = true := by simp [cj]
          simp only [ksum, this, if_true]
          rw [i2 j (by omega)]
          omega
        · have : ¬ (k.1.toNat == j) = true := by simpa using cj
          simp only [ksum, this]
          have := i3 j hj
          simp; omega
structure InForm (ks : List Knot) (all : Int) : Prop where
  good : GoodK ks
  lo : 0 ≤ all
  hi : all ≤ 2000
  sum : ksum yes ks = all
  part : ∀ j : Nat, j < 64 → ksum (fun k => k == j) ks ≤ all / 8
  len : ks.length ≤ 127
theorem okB_form {ks : List Knot} {all : Int} (h : okB ks all = true) : InForm ks all := by
  have hg := okB_good h
  have ha := okB_all h
  unfold okB at h
  rw [if_neg (by omega)] at h
  obtain ⟨h1, _, h3, h4⟩ := okGo_sum ha.1 ha.2 (Int.le_refl 0) (by omega) (Int.le_refl 0) (by omega) h
  exact ⟨hg, ha.1, ha.2, by omega, h3, by omega⟩
theorem sumK_form {ka kb : List Knot} {alla allb : Int} (fa : InForm ka alla) (gb : GoodK kb) (sb : ksum yes kb = allb) (b0 : 0 ≤ allb) (pb : ∀ j : Nat, j < 64 → ksum (fun k => k == j) kb ≤ allb / 8) (hs : alla + allb ≤ 2000) :
    okB (sumK ka kb (alla + allb)) (alla + allb) = true ∧
    (∀ p : Nat → Bool, (∀ m, 1 ≤ m → m ≤ 63 → p m = true → p (2 * m) = true ∧ p (2 * m + 1) = true) → ksum p (sumK ka kb (alla + allb)) ≤ ksum p ka + ksum p kb) ∧
    (∀ p : Nat → Bool, (∀ m, 1 ≤ m → m ≤ 63 → p (2 * m) = true ∨ p (2 * m + 1) = true → p m = true) → ksum p ka + ksum p kb ≤ ksum p (sumK ka kb (alla + allb))) := by
  have fa1 := fa.lo
  have fa2 := fa.sum
  obtain ⟨n1, w1⟩ := numsGo_sum (ks := ka) fa.good zeros_p (Int.le_refl 0) (by omega)
  obtain ⟨n2, w2⟩ := numsGo_sum (ks := kb) gb n1 (by omega) (by omega)
  have hw : ∀ p, wsum p 0 (numsGo kb (numsGo ka zeros)) = ksum p ka + ksum p kb := fun p => by rw [w2, w1, wsum_zeros]; omega
  obtain ⟨s1, s2, s3, s4⟩ := sqGo_sum (all := alla + allb) (top := 0 + ksum yes ka + ksum yes kb) (by omega) (n := 63) (a := numsGo kb (numsGo ka zeros)) (by omega) n2
  have hd := w64_div (all := alla + allb) (by omega) hs
  have hpart : ∀ j, 1 ≤ j → j < 64 → (numsGo kb (numsGo ka zeros)).getD j 0 ≤ w64 ((alla + allb).tdiv 8) := fun j hj1 hj2 => by
    have := wsum_one (l := numsGo kb (numsGo ka zeros)) (i := 0) (j := j)
    rw [Nat.zero_add, hw] at this
    rw [← this, hd]
    have := fa.part j hj2
    have := pb j hj2
    omega
  have s4' := s4 hpart (by rw [hd]; omega)
  have hk : ∀ p, ksum p (sumK ka kb (alla + allb)) = wsum p 0 (sqGo (alla + allb) 63 (numsGo kb (numsGo ka zeros))) := fun p => ksum_list s1.nn
  refine ⟨?_, fun p hp => by rw [hk, ← hw]; exact s2 p hp, fun p hp => by rw [hk, ← hw]; exact s3 p hp⟩
  have hz : (sqGo (alla + allb) 63 (numsGo kb (numsGo ka zeros))).getD 0 0 = 0 := by
    rw [sqGo_zero, numsGo_zero gb, numsGo_zero fa.good]; decide
  have htot : wsum yes 0 (sqGo (alla + allb) 63 (numsGo kb (numsGo ka zeros))) = alla + allb := by
    have h1 := s2 yes (fun _ _ _ _ => ⟨rfl, rfl⟩)
    have h2 := s3 yes (fun _ _ _ _ => rfl)
    have h3 := hw yes
    omega
  unfold okB sumK
  rw [if_neg (by omega), listGo_zero (by omega)]
  obtain ⟨x, r, hxr⟩ : ∃ x r, sqGo (alla + allb) 63 (numsGo kb (numsGo ka zeros)) = x :: r := by
    cases h : sqGo (alla + allb) 63 (numsGo kb (numsGo ka zeros)) with
    | nil => have := s1.len; rw [h] at this; simp at this
    | cons x r => exact ⟨x, r, rfl⟩
  have hl := s1.len
  have hnn := s1.nn
  rw [hxr] at hz htot hl hnn s4' ⊢
  have hx : x = 0 := hz
  subst hx
  simp only [wsum, if_true, List.length_cons] at htot hl
  rw [List.drop_succ_cons, List.drop_zero]
  exact ok_list hs (by omega) (by omega) (by omega) (fun j => hnn (j + 1)) (fun j hj => s4' (j + 1) (by omega) (by omega)) (by omega) (by omega)
def plo (t : Int) (i : Nat) : Bool := decide ((span (i : Int)).2 ≤ t)
def phi (t : Int) (i : Nat) : Bool := decide ((span (i : Int)).1 ≤ t)
theorem span_kids : ∀ n : Nat, n < 64 → 1 ≤ n → (span ((2 * n : Nat) : Int)).2 ≤ (span (n : Int)).2 ∧ (span ((2 * n + 1 : Nat) : Int)).2 ≤ (span (n : Int)).2 ∧ (span (n : Int)).1 ≤ (span ((2 * n : Nat) : Int)).1 ∧ (span (n : Int)).1 ≤ (span ((2 * n + 1 : Nat) : Int)).1 := by
  decide +kernel
theorem plo_kids (t : Int) : ∀ m, 1 ≤ m → m ≤ 63 → plo t m = true → plo t (2 * m) = true ∧ plo t (2 * m + 1) = true := fun m h1 h2 h => by
  have := span_kids m (by omega) h1
  unfold plo at h ⊢
  simp only [decide_eq_true_eq] at h ⊢
  omega
theorem phi_kids (t : Int) : ∀ m, 1 ≤ m → m ≤ 63 → phi t (2 * m) = true ∨ phi t (2 * m + 1) = true → phi t m = true := fun m h1 h2 h => by
  have := span_kids m (by omega) h1
  unfold phi at h ⊢
  simp only [decide_eq_true_eq] at h ⊢
  omega
theorem span_thing (t : Int) (h0 : 0 ≤ t) (h1 : t ≤ 63) : span (64 + t) = (t, t) := by
  unfold span
  rw [show (63 : Nat) = 62 + 1 from rfl, spanG, if_neg (by omega)]
  have : 64 + t - 64 = t := by omega
  rw [this]
theorem one_knot {t : Int} (h0 : 0 ≤ t) (h1 : t ≤ 63) : GoodK [((64 + t, 1, ()) : Knot)] ∧ ksum yes [((64 + t, 1, ()) : Knot)] = 1 ∧ (∀ j : Nat, j < 64 → ksum (fun k => k == j) [((64 + t, 1, ()) : Knot)] ≤ 1 / 8) ∧
    (∀ i : Int, ksum (plo i) [((64 + t, 1, ()) : Knot)] = if t ≤ i then 1 else 0) ∧ (∀ i : Int, ksum (phi i) [((64 + t, 1, ()) : Knot)] = if t ≤ i then 1 else 0) := by
  have e : (((64 + t).toNat : Nat) : Int) = 64 + t := by omega
  refine ⟨fun k hk => ?_, rfl, fun j hj => ?_, fun i => ?_, fun i => ?_⟩
  · simp only [List.mem_singleton] at hk
    subst hk
    show 1 ≤ 64 + t ∧ 64 + t ≤ 127 ∧ (1 : Int) ≤ 1 ∧ (1 : Int) ≤ 2000
    omega
  · have : ((64 + t).toNat == j) = false := by simp; omega
    simp [ksum, this]
  · simp [ksum, plo, e, span_thing t h0 h1]
  · simp [ksum, phi, e, span_thing t h0 h1]
end Go.Proofs.YtdgdoeknpakmlaaGreat.Den
namespace Go.Proofs.YtdgdoeknpakmlaaGreat.Den
open Go
set_option linter.unusedVariables false
set_option linter.unusedSimpArgs false
theorem rankAdd_ok {ks : List Knot} {all t : Int} (h : okB ks all = true) (ht : thingB t = true) (ha : all < 2000) :
    (rankAdd ks all t).2 = true ∧ okB (rankAdd ks all t).1.1 (rankAdd ks all t).1.2.1 = true ∧ (rankAdd ks all t).1.2.1 = all + 1 ∧
    ∀ i, ksum (plo i) (rankAdd ks all t).1.1 ≤ ksum (plo i) ks + (if t ≤ i then 1 else 0) ∧ ksum (phi i) ks + (if t ≤ i then 1 else 0) ≤ ksum (phi i) (rankAdd ks all t).1.1 := by
  have tt := thing_le ht
  have hB : addB ks all t = true := by
    unfold addB
    simp only [Bool.and_eq_true, decide_eq_true_eq]
    exact ⟨h, tt.1, tt.2, ha⟩
  obtain ⟨e1, e2⟩ := addS_sumK hB
  have fa := okB_form h
  obtain ⟨g1, g2, g3, g4, g5⟩ := one_knot tt.1 tt.2
  obtain ⟨s1, s2, s3⟩ := sumK_form (ka := ks) (kb := [(64 + t, 1, ())]) (alla := all) (allb := 1) fa g1 g2 (by omega) g3 (by omega)
  have e : rankAdd ks all t = ((sumK ks [(64 + t, 1, ())] (all + 1), all + 1, ()), true) := by
    unfold rankAdd
    rw [hB, cond_true, e1, e2]
  rw [e]
  have lo := fun i => s2 (plo i) (plo_kids i)
  have hi := fun i => s3 (phi i) (phi_kids i)
  simp only [g4, g5] at lo hi
  generalize sumK ks [(64 + t, 1, ())] (all + 1) = K at s1 lo hi
  exact ⟨rfl, s1, rfl, fun i => ⟨lo i, hi i⟩⟩
theorem rankJoin_ok {ka kb : List Knot} {aa ab : Int} (h : okB ka aa = true) (h' : okB kb ab = true) (ha : aa + ab ≤ 2000) :
    (rankJoin ka aa kb ab).2 = true ∧ okB (rankJoin ka aa kb ab).1.1 (rankJoin ka aa kb ab).1.2.1 = true ∧ (rankJoin ka aa kb ab).1.2.1 = aa + ab ∧
    ∀ i, ksum (plo i) (rankJoin ka aa kb ab).1.1 ≤ ksum (plo i) ka + ksum (plo i) kb ∧ ksum (phi i) ka + ksum (phi i) kb ≤ ksum (phi i) (rankJoin ka aa kb ab).1.1 := by
  have hB : joinB ka aa kb ab = true := by
    unfold joinB
    simp only [h, h', ha, decide_true, Bool.and_self]
  have fa := okB_form h
  have fb := okB_form h'
  obtain ⟨s1, s2, s3⟩ := sumK_form (ka := ka) (kb := kb) (alla := aa) (allb := ab) fa fb.good fb.sum fb.lo fb.part ha
  have e : rankJoin ka aa kb ab = ((sumK ka kb (aa + ab), aa + ab, ()), true) := by
    unfold rankJoin
    rw [hB, cond_true]
  rw [e]
  have lo := fun i => s2 (plo i) (plo_kids i)
  have hi := fun i => s3 (phi i) (phi_kids i)
  generalize sumK ka kb (aa + ab) = K at s1 lo hi
  exact ⟨rfl, s1, rfl, fun i => ⟨lo i, hi i⟩⟩
theorem implRankAdd_eq (f : Nat) (ks : List Knot) (all t : Int) (hl : ks.length < 2147483648) (hf : ks.length < f) (hf2 : 128 < f) : impl_RankAdd_fn f ((ks, all, ()), (t, ()), ()) = some ((rankAdd ks all t).1, ((rankAdd ks all t).2, ()), ()) := by
  rw [implAdd_eq f ks all t hl hf hf2]; unfold rankAdd
  cases addB ks all t <;> rfl
theorem implRankJoin_eq (f : Nat) (ka kb : List Knot) (aa ab : Int) (hla : ka.length < 2147483648) (hlb : kb.length < 2147483648) (hfa : ka.length < f) (hfb : kb.length < f) (hf : 128 < f) :
    impl_RankJoin_fn f ((ka, aa, ()), (kb, ab, ()), ()) = some ((rankJoin ka aa kb ab).1, ((rankJoin ka aa kb ab).2, ()), ()) := by
  rw [implJoin_eq f ka kb aa ab hla hlb hfa hfb hf]; unfold rankJoin
  cases joinB ka aa kb ab <;> rfl
theorem fst6_pos {p : Int → Bool} : 0 < (fst6 p).length ↔ ∃ k, 0 ≤ k ∧ k < 64 ∧ p k = true := by
  unfold fst6
  rw [List.length_take]
  constructor
  · intro h
    have h' : 0 < (ascN p 64 0).length := by omega
    obtain ⟨k, hk⟩ := List.exists_mem_of_length_pos h'
    have := ascN_mem.1 hk
    exact ⟨k, this.1, by omega, this.2.2⟩
  · rintro ⟨k, h0, h1, hp⟩
    have : k ∈ ascN p 64 0 := ascN_mem.2 ⟨h0, by omega, hp⟩
    have := List.length_pos_of_mem this
    omega
theorem fewAdd_fst6 {p : Int → Bool} {t : Int} (ht : thingB t = true) : fewAdd (fst6 p) t = (fst6 (fun k => p k || k == mark t), true) := by
  unfold fewAdd
  have m := mark_rng ht
  rw [fst6_form, ht, Bool.and_self, cond_true, few6_fst6 p m.1 m.2]
theorem fewAdd_ok {l : List Int} {t : Int} (h : fewB l = true) (ht : thingB t = true) : (fewAdd l t).2 = true ∧ fewB (fewAdd l t).1 = true ∧ 0 < (fewAdd l t).1.length := by
  rw [form_fst6 h, fewAdd_fst6 ht]
  have m := mark_rng ht
  exact ⟨rfl, fst6_form _, fst6_pos.2 ⟨mark t, m.1, by omega, by simp⟩⟩
theorem fewB_rng {l : List Int} (h : fewB l = true) : ∀ x ∈ l, 0 ≤ x ∧ x ≤ 63 := fun x hx => by
  unfold fewB at h
  simp only [Bool.and_eq_true] at h
  have := fewGo_lt h.2 hx; omega
theorem fst6_congr {p q : Int → Bool} (h : ∀ k, 0 ≤ k → k < 64 → p k = q k) : fst6 p = fst6 q := by
  unfold fst6
  rw [ascN_congr fun k h1 h2 => h k h1 (by omega)]
theorem fewJoin_fst6 {p q : Int → Bool} : fewJoin (fst6 p) (fst6 q) = (fst6 fun k => p k || q k, true) := by
  unfold fewJoin
  rw [fst6_form, fst6_form, Bool.and_self, cond_true]
  have e3 := joinGo_fst6 (p := p) (fewB_rng (fst6_form q))
  have e4 := least_fst6 p (fun k => (fst6 q).contains k)
  rw [← form_fst6 (fst6_form q), least_fst6] at e4
  rw [e3, ← e4]
theorem fewJoin_ok {a b : List Int} (h : fewB a = true) (h' : fewB b = true) : (fewJoin a b).2 = true ∧ fewB (fewJoin a b).1 = true ∧ (0 < (fewJoin a b).1.length ↔ 0 < a.length ∨ 0 < b.length) := by
  have ha := form_fst6 h
  have hb := form_fst6 h'
  have e := fewJoin_fst6 (p := fun k => a.contains k) (q := fun k => b.contains k)
  rw [← ha, ← hb] at e
  rw [e]
  refine ⟨rfl, fst6_form _, ?_⟩
  rw [fst6_pos]
  constructor
  · rintro ⟨k, _, _, hk⟩
    rcases Bool.or_eq_true _ _ ▸ hk with hk | hk
    · exact .inl (List.length_pos_of_mem (List.contains_iff_mem.1 hk))
    · exact .inr (List.length_pos_of_mem (List.contains_iff_mem.1 hk))
  · rintro (hl | hl)
    · obtain ⟨k, hk⟩ := List.exists_mem_of_length_pos hl
      have := fewB_rng h k hk
      exact ⟨k, this.1, by omega, by rw [List.contains_iff_mem.2 hk]; rfl⟩
    · obtain ⟨k, hk⟩ := List.exists_mem_of_length_pos hl
      have := fewB_rng h' k hk
      exact ⟨k, this.1, by omega, by rw [List.contains_iff_mem.2 hk, Bool.or_true]⟩
structure Form (s : SumD) : Prop where
  rough : roughB s.1 = true
  few : fewB s.2.1 = true
  top : topB s.2.2.1 s.2.2.2.1 s.2.2.2.2.1 = true
  rank : okB s.2.2.2.2.2.1 s.2.2.2.2.2.2.1 = true
  all : allR s.1 = s.2.2.2.2.1
  same : s.2.2.2.2.1 = s.2.2.2.2.2.2.1
  some : 0 < s.2.1.length ↔ 0 < s.2.2.2.2.1
theorem form_iff {s : SumD} : sumBD s = true ↔ Form s := by
  unfold sumBD sumB
  simp only [Bool.and_eq_true, beq_iff_eq]
  constructor
  · rintro ⟨h1, h2, h3, h4, h5, h6, h7⟩
    have h8 := decide_eq_decide.1 h7
    exact ⟨h1, h2, h3, h4, h5, h6, by omega⟩
  · rintro ⟨h1, h2, h3, h4, h5, h6, h7⟩
    exact ⟨h1, h2, h3, h4, h5, h6, decide_eq_decide.2 (by omega)⟩
theorem Form.all_rng {s : SumD} (h : Form s) : 0 ≤ s.2.2.2.2.1 ∧ s.2.2.2.2.1 ≤ 2000 := (four h.top).2.2.2
theorem form_new : Form sumNew := form_iff.1 sumNew_ok
abbrev pt (s : SumD) : List Knot := s.2.2.1
abbrev ptLost (s : SumD) : Int := s.2.2.2.1
abbrev allOf (s : SumD) : Int := s.2.2.2.2.1
abbrev kn (s : SumD) : List Knot := s.2.2.2.2.2.1
theorem sumAdd_ok {s : SumD} {t : Int} (h : Form s) (ht : thingB t = true) (ha : allOf s < 2000) :
    (sumAdd s t).2 = true ∧ Form (sumAdd s t).1 ∧ allOf (sumAdd s t).1 = allOf s + 1 ∧ (sumAdd s t).1.1 = (roughAdd s.1 t 1).1 ∧ (sumAdd s t).1.2.1 = (fewAdd s.2.1 t).1 ∧
    (∀ i, i < 3 → ∀ j, cell (sumAdd s t).1.1 i j = cell s.1 i j + if pl i t = j then 1 else 0) ∧ ptLost s ≤ ptLost (sumAdd s t).1 ∧
    (∀ k, cntK (pt (sumAdd s t).1) k ≤ cntK (pt s) k + (if t = k then 1 else 0) ∧ cntK (pt s) k + (if t = k then 1 else 0) + ptLost s ≤ cntK (pt (sumAdd s t).1) k + ptLost (sumAdd s t).1) ∧
    ∀ i, ksum (plo i) (kn (sumAdd s t).1) ≤ ksum (plo i) (kn s) + (if t ≤ i then 1 else 0) ∧ ksum (phi i) (kn s) + (if t ≤ i then 1 else 0) ≤ ksum (phi i) (kn (sumAdd s t).1) := by
  have hr := h.all_rng
  have ha' : s.2.2.2.2.1 < 2000 := ha
  have r := roughAdd_ok (n := 1) h.rough ht (by omega) (by have := h.all; show allR s.1 + 1 ≤ 2000; omega)
  have m := fewAdd_ok h.few ht
  have p := topAdd_ok h.top ht ha
  have k := rankAdd_ok h.rank ht (by have := h.same; omega)
  have hB := form_iff.2 h
  have e : sumAdd s t = (((roughAdd s.1 t 1).1, (fewAdd s.2.1 t).1, (topAdd s.2.2.1 s.2.2.2.1 s.2.2.2.2.1 t).1.1, (topAdd s.2.2.1 s.2.2.2.1 s.2.2.2.2.1 t).1.2.1, (topAdd s.2.2.1 s.2.2.2.1 s.2.2.2.2.1 t).1.2.2.1, (rankAdd s.2.2.2.2.2.1 s.2.2.2.2.2.2.1 t).1.1, (rankAdd s.2.2.2.2.2.1 s.2.2.2.2.2.2.1 t).1.2.1, ()), true) := by
    unfold sumAdd
    simp only [hB, ht, show s.2.2.2.2.1 < 2000 from ha, decide_true, Bool.and_self, cond_true]
  rw [e]
  refine ⟨rfl, ⟨r.2.1, m.2.1, p.2.1, k.2.1, ?_, ?_, ?_⟩, p.2.2.1, rfl, rfl, r.2.2.2, p.2.2.2.1, p.2.2.2.2, k.2.2.2⟩
  · show allR (roughAdd s.1 t 1).1 = (topAdd s.2.2.1 s.2.2.2.1 s.2.2.2.2.1 t).1.2.2.1
    rw [r.2.2.1, p.2.2.1, h.all]
  · show (topAdd s.2.2.1 s.2.2.2.1 s.2.2.2.2.1 t).1.2.2.1 = (rankAdd s.2.2.2.2.2.1 s.2.2.2.2.2.2.1 t).1.2.1
    rw [p.2.2.1, k.2.2.1, h.same]
  · show 0 < (fewAdd s.2.1 t).1.length ↔ 0 < (topAdd s.2.2.1 s.2.2.2.1 s.2.2.2.2.1 t).1.2.2.1
    rw [p.2.2.1]
    exact ⟨fun _ => (by omega), fun _ => m.2.2⟩
theorem sumJoin_ok {s u : SumD} (h : Form s) (h' : Form u) (ha : allOf s + allOf u ≤ 2000) :
    (sumJoin s u).2 = true ∧ Form (sumJoin s u).1 ∧ allOf (sumJoin s u).1 = allOf s + allOf u ∧ (sumJoin s u).1.1 = (roughJoin s.1 u.1).1 ∧ (sumJoin s u).1.2.1 = (fewJoin s.2.1 u.2.1).1 ∧
    (∀ i, i < 3 → ∀ j, cell (sumJoin s u).1.1 i j = cell s.1 i j + cell u.1 i j) ∧ ptLost s + ptLost u ≤ ptLost (sumJoin s u).1 ∧
    (∀ k, cntK (pt (sumJoin s u).1) k ≤ cntK (pt s) k + cntK (pt u) k ∧ cntK (pt s) k + cntK (pt u) k + (ptLost s + ptLost u) ≤ cntK (pt (sumJoin s u).1) k + ptLost (sumJoin s u).1) ∧
    ∀ i, ksum (plo i) (kn (sumJoin s u).1) ≤ ksum (plo i) (kn s) + ksum (plo i) (kn u) ∧ ksum (phi i) (kn s) + ksum (phi i) (kn u) ≤ ksum (phi i) (kn (sumJoin s u).1) := by
  have hr := h.all_rng
  have hr' := h'.all_rng
  have ha' : s.2.2.2.2.1 + u.2.2.2.2.1 ≤ 2000 := ha
  have r := roughJoin_ok h.rough h'.rough (by rw [h.all, h'.all]; exact ha)
  have m := fewJoin_ok h.few h'.few
  have p := topJoin_ok h.top h'.top ha
  have k := rankJoin_ok h.rank h'.rank (by rw [← h.same, ← h'.same]; exact ha)
  have ew : w64 (s.2.2.2.2.1 + u.2.2.2.2.1) = s.2.2.2.2.1 + u.2.2.2.2.1 := by rw [w64_id] <;> omega
  have e : sumJoin s u = (((roughJoin s.1 u.1).1, (fewJoin s.2.1 u.2.1).1, (topJoin s.2.2.1 s.2.2.2.1 s.2.2.2.2.1 u.2.2.1 u.2.2.2.1 u.2.2.2.2.1).1.1, (topJoin s.2.2.1 s.2.2.2.1 s.2.2.2.2.1 u.2.2.1 u.2.2.2.1 u.2.2.2.2.1).1.2.1, (topJoin s.2.2.1 s.2.2.2.1 s.2.2.2.2.1 u.2.2.1 u.2.2.2.1 u.2.2.2.2.1).1.2.2.1, (rankJoin s.2.2.2.2.2.1 s.2.2.2.2.2.2.1 u.2.2.2.2.2.1 u.2.2.2.2.2.2.1).1.1, (rankJoin s.2.2.2.2.2.1 s.2.2.2.2.2.2.1 u.2.2.2.2.2.1 u.2.2.2.2.2.2.1).1.2.1, ()), true) := by
    unfold sumJoin
    simp only [form_iff.2 h, form_iff.2 h', ew, show s.2.2.2.2.1 + u.2.2.2.2.1 ≤ 2000 from ha, decide_true, Bool.and_self, cond_true]
  rw [e]
  refine ⟨rfl, ⟨r.2.1, m.2.1, p.2.1, k.2.1, ?_, ?_, ?_⟩, p.2.2.1, rfl, rfl, r.2.2.2, p.2.2.2.1, p.2.2.2.2, k.2.2.2⟩
  · show allR (roughJoin s.1 u.1).1 = (topJoin s.2.2.1 s.2.2.2.1 s.2.2.2.2.1 u.2.2.1 u.2.2.2.1 u.2.2.2.2.1).1.2.2.1
    rw [r.2.2.1, p.2.2.1, h.all, h'.all]
  · show (topJoin s.2.2.1 s.2.2.2.1 s.2.2.2.2.1 u.2.2.1 u.2.2.2.1 u.2.2.2.2.1).1.2.2.1 = (rankJoin s.2.2.2.2.2.1 s.2.2.2.2.2.2.1 u.2.2.2.2.2.1 u.2.2.2.2.2.2.1).1.2.1
    rw [p.2.2.1, k.2.2.1, h.same, h'.same]
  · show 0 < (fewJoin s.2.1 u.2.1).1.length ↔ 0 < (topJoin s.2.2.1 s.2.2.2.1 s.2.2.2.2.1 u.2.2.1 u.2.2.2.1 u.2.2.2.2.1).1.2.2.1
    rw [p.2.2.1, m.2.2, h.some, h'.some]
    omega
theorem sumAdd_no {s : SumD} {t : Int} (h : (sumBD s && (thingB t && decide (allOf s < 2000))) = false) : sumAdd s t = (noSum, false) := by
  unfold sumAdd
  rw [show (sumBD s && (thingB t && decide (s.2.2.2.2.1 < 2000))) = false from h]; rfl
theorem counted_eq (f : Nat) (hf : 1000 < f) (s : SumD) (t : Int) (h : Form s) (hk : s.2.2.2.2.2.1.length ≤ 128) : impl_Sum_counted_fn f (s, (t, ()), ()) = some ((sumAdd s t).1, ((sumAdd s t).2, ()), ()) := by
  obtain ⟨rs, ms, ps, lost, tall, ks, rall, ⟨⟩⟩ := s
  have hr := h.all_rng
  have h1 := h.rough; have h2 := h.few; have h3 := h.top; have h4 := h.rank; have h5 := h.all; have h6 := h.same
  simp only at h1 h2 h3 h4 h5 h6 hr hk
  have e1 : impl_Rough_with_fn f ((rs, ()), t, ()) = some ((((roughAdd rs t 1).1, ()), ()), (roughAdd rs t 1).2, ()) := by
    show impl_Rough_with_pre f rs t = _
    unfold impl_Rough_with_pre
    rw [implRoughAdd_eq f rs t 1 (by omega)]; rfl
  have e2 : impl_Few_with_fn f ((ms, ()), t, ()) = some ((((fewAdd ms t).1, ()), ()), (fewAdd ms t).2, ()) := by
    show impl_Few_with_pre f ms t = _
    unfold impl_Few_with_pre
    rw [implFewAdd_eq f ms t (by omega)]; rfl
  have e3 : impl_Top_with_fn f ((ps, lost, tall, ()), t, ()) = some (((topAdd ps lost tall t).1, ()), (topAdd ps lost tall t).2, ()) := by
    show impl_Top_with_pre f ps lost tall t = _
    unfold impl_Top_with_pre
    rw [implTopAdd_eq f hf ps lost tall t]; rfl
  have e4 : impl_Rank_with_fn f ((ks, rall, ()), t, ()) = some (((rankAdd ks rall t).1, ()), (rankAdd ks rall t).2, ()) := by
    show impl_Rank_with_pre f ks rall t = _
    unfold impl_Rank_with_pre
    rw [implRankAdd_eq f ks rall t (by omega) (by omega) (by omega)]; rfl
  show impl_Sum_counted_pre f rs ms ps lost tall ks rall t = _
  unfold impl_Sum_counted_pre
  rw [show impl_Sum_ways_fn f ((rs, ms, ps, lost, tall, ks, rall, ()), ()) = some ((((rs, ()), ()), ((ms, ()), ()), ((ps, lost, tall, ()), ()), ((ks, rall, ()), ()), ()), ()) from rfl, Option.bind_some]
  simp only [e1, Option.bind_some]
  cases ht : thingB t
  · have : (roughAdd rs t 1).2 = false := by unfold roughAdd; rw [ht]; simp
    rw [this, sumAdd_no (by rw [ht]; simp)]; rfl
  · by_cases ha : tall < 2000
    · have r := roughAdd_ok (n := 1) h1 ht (by omega) (by rw [h5]; omega)
      have m := fewAdd_ok h2 ht
      have p := topAdd_ok h3 ht ha
      have k := rankAdd_ok h4 ht (by omega)
      have hB := form_iff.2 h
      rw [r.1]
      simp only [Bool.not_true, cond_false, e2, Option.bind_some, m.1, e3, p.1, e4, k.1]
      unfold sumAdd
      simp only [hB, ht, ha, decide_true, Bool.and_self, cond_true]
      rfl
    · have : (roughAdd rs t 1).2 = false := by
        have ew : w64 (2000 - isum (rs.getD 0 [])) = 2000 - tall := by
          rw [← h5, allR_eq h1, w64_id] <;> · have := allR_eq h1; omega
        have n : ¬ ((0 : Int) ≤ 1 ∧ (1 : Int) ≤ 2000 - tall) := by omega
        unfold roughAdd; rw [ew]; simp only [n, decide_false, Bool.and_false, cond_false]
      rw [this, sumAdd_no (by
        have : ¬ allOf (rs, ms, ps, lost, tall, ks, rall, ()) < 2000 := ha
        simp [this])]; rfl
theorem implSumOf_eq (f : Nat) (hf : 1000 < f) (l : List Int) (hl : l.length < 1000000000) (hfl : l.length < f) : impl_SumOf_fn f ((l, ()), ()) = some ((sumOf l).1, ((sumOf l).2, ()), ()) := by
  show impl_SumOf_pre f (iter (impl_SumOf_st0 f) f) l = _
  unfold impl_SumOf_pre
  rw [implSumNew_eq, Option.bind_some]
  refine (iter_list (st := impl_SumOf_st0 f) (enc := fun i (s : SumD) => ((i : Int), (l.length : Int), l, s.1, s.2.1, s.2.2.1, s.2.2.2.1, s.2.2.2.2.1, s.2.2.2.2.2.1, s.2.2.2.2.2.2.1, (0 : Int), (0 : Int), (0 : Int))) (fun (x : Int) c (s : SumD) => (impl_Sum_counted_fn f (s, (x, ()), ())).bind fun y => cond (!y.2.1.1) (some (noSum, (false, ()), ())) (c y.1))
      (fun s => some (s, (true, ()), ())) l 0 ?_ ?_ f sumNew hfl).trans ?_
  · intro i s g hi
    show impl_SumOf_step0 f g _ = _
    unfold impl_SumOf_step0
    simp only [zz_eq, lt_cast hi, le_cast, decide_true, cond_true, Int.toNat_natCast, w64_up (show i < 4294967296 by omega)]
    rfl
  · intro s g
    show impl_SumOf_step0 f g _ = _
    unfold impl_SumOf_step0
    simp only [nlt_cast, decide_false, cond_false]
  · have : ∀ (l : List Int) (s : SumD), Form s → goL (R := SumD × ((Bool × Unit) × Unit)) (fun (x : Int) c (s : SumD) => (impl_Sum_counted_fn f (s, (x, ()), ())).bind fun y => cond (!y.2.1.1) (some (noSum, (false, ()), ())) (c y.1))
        (fun s => some (s, (true, ()), ())) l s = some ((sumOfGo l s).1, ((sumOfGo l s).2, ()), ()) := by
      intro l
      induction l with
      | nil => intro s _; rfl
      | cons x l ih =>
        intro s hs
        have := (okB_form hs.rank).len
        show (impl_Sum_counted_fn f (s, (x, ()), ())).bind _ = _
        rw [counted_eq f hf s x hs (by omega), Option.bind_some]
        unfold sumOfGo
        cases h2 : (sumAdd s x).2
        · rfl
        · simp only [Bool.not_true, cond_false, cond_true]
          refine ih _ ?_
          by_cases hc : (sumBD s && (thingB x && decide (allOf s < 2000))) = true
          · simp only [Bool.and_eq_true, decide_eq_true_eq] at hc
            exact (sumAdd_ok hs hc.2.1 hc.2.2).2.1
          · rw [sumAdd_no (by simpa using hc)] at h2; cases h2
    exact this l sumNew form_new
theorem implSumJoin_eq (f : Nat) (hf : 1000 < f) (s u : SumD) (hs : SmallS s 129) (hu : SmallS u 129) : impl_SumJoin_fn f (s, u, ()) = some ((sumJoin s u).1, ((sumJoin s u).2, ()), ()) := by
  obtain ⟨rs, ms, ps, lost, tall, ks, rall, ⟨⟩⟩ := s
  obtain ⟨rs', ms', ps', lost', tall', ks', rall', ⟨⟩⟩ := u
  have e0 := implSumD_eq f (rs, ms, ps, lost, tall, ks, rall, ()) hs (by omega) (by omega) (by omega)
  have e1 := implSumD_eq f (rs', ms', ps', lost', tall', ks', rall', ()) hu (by omega) (by omega) (by omega)
  show impl_SumJoin_pre f rs ms ps lost tall ks rall rs' ms' ps' lost' tall' ks' rall' = _
  unfold impl_SumJoin_pre sumJoin
  rw [e0, Option.bind_some]
  cases hB : sumBD (rs, ms, ps, lost, tall, ks, rall, ())
  · rfl
  rw [e1]
  simp only [Bool.not_true, cond_false, Option.bind_some]
  cases hB' : sumBD (rs', ms', ps', lost', tall', ks', rall', ())
  · rfl
  have h := form_iff.1 hB
  have h' := form_iff.1 hB'
  have hr := h.all_rng
  have hr' := h'.all_rng
  have kl := (okB_form h.rank).len
  have kl' := (okB_form h'.rank).len
  have h1 := h.rough; have h2 := h.few; have h3 := h.top; have h4 := h.rank; have h5 := h.all; have h6 := h.same
  have g1 := h'.rough; have g2 := h'.few; have g3 := h'.top; have g4 := h'.rank; have g5 := h'.all; have g6 := h'.same
  simp only at h1 h2 h3 h4 h5 h6 hr kl g1 g2 g3 g4 g5 g6 hr' kl'
  have ew : w64 (tall + tall') = tall + tall' := by rw [w64_id] <;> omega
  have w : ∀ (rs ms ps lost tall ks rall), impl_Sum_ways_fn f ((rs, ms, ps, lost, tall, ks, rall, ()), ()) = some ((((rs, ()), ()), ((ms, ()), ()), ((ps, lost, tall, ()), ()), ((ks, rall, ()), ()), ()), ()) := fun _ _ _ _ _ _ _ => rfl
  have j1 : impl_joinWays_v0_fn f (((rs, ()), ()), ((rs', ()), ()), ()) = some ((((roughJoin rs rs').1, ()), ()), (roughJoin rs rs').2, ()) := by
    show impl_joinWays_v0_pre f rs rs' = _
    unfold impl_joinWays_v0_pre
    rw [implRoughJoin_eq f rs rs' (by omega)]; rfl
  have j2 : impl_joinWays_v1_fn f (((ms, ()), ()), ((ms', ()), ()), ()) = some ((((fewJoin ms ms').1, ()), ()), (fewJoin ms ms').2, ()) := by
    show impl_joinWays_v1_pre f ms ms' = _
    unfold impl_joinWays_v1_pre
    rw [implFewJoin_eq f ms ms' (by omega)]; rfl
  have j3 : impl_joinWays_v2_fn f (((ps, lost, tall, ()), ()), ((ps', lost', tall', ()), ()), ()) = some (((topJoin ps lost tall ps' lost' tall').1, ()), (topJoin ps lost tall ps' lost' tall').2, ()) := by
    show impl_joinWays_v2_pre f ps lost tall ps' lost' tall' = _
    unfold impl_joinWays_v2_pre
    rw [implTopJoin_eq f hf ps lost tall ps' lost' tall']; rfl
  have j4 : impl_joinWays_v3_fn f (((ks, rall, ()), ()), ((ks', rall', ()), ()), ()) = some (((rankJoin ks rall ks' rall').1, ()), (rankJoin ks rall ks' rall').2, ()) := by
    show impl_joinWays_v3_pre f ks rall ks' rall' = _
    unfold impl_joinWays_v3_pre
    rw [implRankJoin_eq f ks ks' rall rall' (by omega) (by omega) (by omega) (by omega) (by omega)]; rfl
  simp only [Bool.not_true, cond_false, w, Option.bind_some, j1, ew, Bool.true_and]
  by_cases ha : tall + tall' ≤ 2000
  · have r := roughJoin_ok h1 g1 (by rw [h5, g5]; exact ha)
    have m := fewJoin_ok h2 g2
    have p := topJoin_ok h3 g3 ha
    have k := rankJoin_ok h4 g4 (by rw [← h6, ← g6]; exact ha)
    rw [r.1]
    simp only [Bool.not_true, cond_false, j2, Option.bind_some, m.1, j3, p.1, j4, k.1, ha, decide_true, cond_true]
    rfl
  · have : (roughJoin rs rs').2 = false := by
      have e := allR_eq h1
      have e' := allR_eq g1
      have ew2 : w64 (isum (rs.getD 0 []) + isum (rs'.getD 0 [])) = tall + tall' := by rw [w64_id] <;> omega
      unfold roughJoin; rw [ew2]; simp [ha]
    rw [this]
    simp only [Bool.not_false, cond_true, ha, decide_false, cond_false]
    rfl
end Go.Proofs.YtdgdoeknpakmlaaGreat.Den
namespace Go.Proofs.YtdgdoeknpakmlaaGreat.Den
open Go
set_option linter.unusedVariables false
set_option linter.unusedSimpArgs false
abbrev bytesC : List (Kd × Bool) := [(Kd.list (.int .u8), false)]
theorem bytes_of {a : CsT bytesC} (h : wfCs bytesC a) : a.1.length ≤ maxLen ∧ ∀ x ∈ a.1, 0 ≤ x ∧ x ≤ 255 := by
  have h1 := h.1
  simp only [wfD] at h1
  refine ⟨h1.1, fun x hx => ?_⟩
  have h2 := h1.2 x hx
  simp only [Lit.wf, Bool.and_eq_true, decide_eq_true_eq, show IntKind.u8.min = 0 from by decide, show IntKind.u8.max = 255 from by decide] at h2
  exact h2
structure Tells (l : List Int) (s : SumD) : Prop where
  form : Form s
  things : ∀ t ∈ l, thingB t = true
  all : allOf s = (l.length : Int)
  rough : ∀ i, i < 3 → ∀ j, cell s.1 i j = ((l.countP fun t => pl i t == j : Nat) : Int)
  few : s.2.1 = fst6 fun k => l.any fun t => mark t == k
  top : ∀ k, cntK (pt s) k ≤ ((l.count k : Nat) : Int) ∧ ((l.count k : Nat) : Int) ≤ cntK (pt s) k + ptLost s
  rank : ∀ i, ksum (plo i) (kn s) ≤ ((l.countP fun t => decide (t ≤ i) : Nat) : Int) ∧ ((l.countP fun t => decide (t ≤ i) : Nat) : Int) ≤ ksum (phi i) (kn s)
theorem rep8 (j : Nat) : (List.replicate 8 (0 : Int)).getD j 0 = 0 := by
  rw [List.getD_eq_getElem?_getD, List.getElem?_replicate]
  split <;> rfl
theorem tells_new : Tells [] sumNew where
  form := form_new
  things := fun t ht => by cases ht
  all := rfl
  rough := fun i hi j => by
    match i, hi with
    | 0, _ => exact rep8 j
    | 1, _ => exact rep8 j
    | 2, _ => exact rep8 j
  few := by decide
  top := fun k => ⟨Int.le_refl _, Int.le_refl _⟩
  rank := fun i => ⟨Int.le_refl _, Int.le_refl _⟩
theorem tells_add {l : List Int} {s : SumD} {t : Int} (h : Tells l s) (ht : thingB t = true) (hl : l.length < 2000) : (sumAdd s t).2 = true ∧ Tells (l ++ [t]) (sumAdd s t).1 := by
  have ha : allOf s < 2000 := by rw [h.all]; omega
  obtain ⟨h1, h2, h3, h4, h5, h6, h7, h8, h9⟩ := sumAdd_ok h.form ht ha
  refine ⟨h1, h2, fun x hx => ?_, ?_, fun i hi j => ?_, ?_, fun k => ?_, fun i => ?_⟩
  · rcases List.mem_append.1 hx with hx | hx
    · exact h.things x hx
    · rcases List.mem_singleton.1 hx with rfl; exact ht
  · rw [h3, h.all, List.length_append, List.length_singleton]; omega
  · rw [h6 i hi j, h.rough i hi j, List.countP_append, List.countP_singleton]
    cases hc : pl i t == j
    · have : ¬ pl i t = j := by simpa using hc
      simp [this]
    · have : pl i t = j := by simpa using hc
      simp [this]
  · rw [h5, h.few, fewAdd_fst6 ht]
    refine fst6_congr fun k _ _ => ?_
    have : (k == mark t) = (mark t == k) := by rw [Bool.eq_iff_iff]; simp only [beq_iff_eq]; exact ⟨Eq.symm, Eq.symm⟩
    simp only [List.any_append, List.any_cons, List.any_nil, Bool.or_false, this]
  · have g1 := h.top k
    have g2 := h8 k
    rw [List.count_append, List.count_singleton]
    by_cases hk : t = k
    · subst hk
      simp only [if_true, beq_self_eq_true] at g2 ⊢
      omega
    · have e : (t == k) = false := by simpa using hk
      simp only [hk, e, if_false, Bool.false_eq_true] at g2 ⊢
      omega
  · have g1 := h.rank i
    have g2 := h9 i
    rw [List.countP_append, List.countP_singleton]
    by_cases hk : t ≤ i
    · simp only [hk, if_true, decide_true] at g2 ⊢
      omega
    · simp only [hk, if_false, decide_false, Bool.false_eq_true] at g2 ⊢
      omega
theorem tells_join {l m : List Int} {s u : SumD} (h : Tells l s) (h' : Tells m u) (hl : l.length + m.length ≤ 2000) : (sumJoin s u).2 = true ∧ Tells (l ++ m) (sumJoin s u).1 := by
  have ha : allOf s + allOf u ≤ 2000 := by rw [h.all, h'.all]; omega
  obtain ⟨h1, h2, h3, h4, h5, h6, h7, h8, h9⟩ := sumJoin_ok h.form h'.form ha
  refine ⟨h1, h2, fun x hx => ?_, ?_, fun i hi j => ?_, ?_, fun k => ?_, fun i => ?_⟩
  · rcases List.mem_append.1 hx with hx | hx
    · exact h.things x hx
    · exact h'.things x hx
  · rw [h3, h.all, h'.all, List.length_append]; omega
  · rw [h6 i hi j, h.rough i hi j, h'.rough i hi j, List.countP_append]; omega
  · rw [h5, h.few, h'.few, fewJoin_fst6]
    refine fst6_congr fun k _ _ => ?_
    simp only [List.any_append]
  · have g1 := h.top k
    have g2 := h8 k
    have g3 := h'.top k
    rw [List.count_append]; omega
  · have g1 := h.rank i
    have g2 := h9 i
    have g3 := h'.rank i
    rw [List.countP_append]; omega
theorem sumOfGo_tells : ∀ (r l : List Int) (s : SumD), Tells l s → (sumOfGo r s).2 = true → Tells (l ++ r) (sumOfGo r s).1
  | [], l, s, h, _ => by rw [List.append_nil]; exact h
  | t :: r, l, s, h, h2 => by
    unfold sumOfGo at h2 ⊢
    cases ha : (sumAdd s t).2 with
    | false => rw [ha] at h2; cases h2
    | true =>
      rw [ha, cond_true] at h2
      simp only [cond_true]
      have hc : (sumBD s && (thingB t && decide (allOf s < 2000))) = true := by
        cases hc : (sumBD s && (thingB t && decide (allOf s < 2000)))
        · rw [sumAdd_no hc] at ha; cases ha
        · rfl
      simp only [Bool.and_eq_true, decide_eq_true_eq] at hc
      have hl : l.length < 2000 := by have := h.all; have := hc.2.2; omega
      have := sumOfGo_tells r (l ++ [t]) _ (tells_add h hc.2.1 hl).2 h2
      rw [List.append_assoc] at this
      exact this
theorem sumOf_tells {l : List Int} (h : (sumOf l).2 = true) : Tells l (sumOf l).1 := sumOfGo_tells l [] sumNew tells_new h
theorem sumOfGo_some : ∀ (r l : List Int) (s : SumD), Tells l s → (∀ t ∈ r, thingB t = true) → l.length + r.length ≤ 2000 → (sumOfGo r s).2 = true
  | [], l, s, h, _, _ => rfl
  | t :: r, l, s, h, h2, hl => by
    simp only [List.length_cons] at hl
    have a := tells_add h (h2 t (List.mem_cons_self ..)) (by omega)
    unfold sumOfGo
    rw [a.1, cond_true]
    exact sumOfGo_some r (l ++ [t]) _ a.2 (fun x hx => h2 x (List.mem_cons_of_mem _ hx)) (by rw [List.length_append, List.length_singleton]; omega)
theorem sumOf_some {l : List Int} (h : ∀ t ∈ l, thingB t = true) (hl : l.length ≤ 2000) : (sumOf l).2 = true := sumOfGo_some l [] sumNew tells_new h (by simpa using hl)
theorem lkInts_refl (f : Nat) (l : List Int) (hl : l.length < 4294967296) (hf : l.length < f) : laws_lkInts_fn f ((l, ()), (l, ()), ()) = some ((true, ()), ()) := by
  show laws_lkInts_pre f (iter (laws_lkInts_st0 f) f) l l = _
  unfold laws_lkInts_pre
  simp only [bne_self_eq_false, cond_false]
  refine iter_skip (st := laws_lkInts_st0 f) (enc := fun i => ((i : Int), l, l)) _ l.length ?_ ?_ l.length 0 f (by omega) hf
  · intro i g hi
    show laws_lkInts_step0 f g _ = _
    unfold laws_lkInts_step0
    simp only [zz_eq, lt_cast hi, le_cast, decide_true, cond_true, Int.toNat_natCast, w64_up (show i < 4294967296 by omega), bne_self_eq_false, cond_false]
  · intro g
    show laws_lkInts_step0 f g _ = _
    unfold laws_lkInts_step0
    simp only [zz_eq, nlt_cast, decide_false, cond_false]
theorem lkRough_refl (f : Nat) (l : List (List Int)) (hl : l.length < 4294967296) (hr : ∀ r ∈ l, r.length < 4294967296 ∧ r.length < f) (hf : l.length < f) : laws_lkRough_fn f ((l, ()), (l, ()), ()) = some ((true, ()), ()) := by
  show laws_lkRough_pre f (iter (laws_lkRough_st0 f) f) l l = _
  unfold laws_lkRough_pre
  simp only [bne_self_eq_false, cond_false]
  refine iter_skip (st := laws_lkRough_st0 f) (enc := fun i => ((i : Int), l, l)) _ l.length ?_ ?_ l.length 0 f (by omega) hf
  · intro i g hi
    show laws_lkRough_step0 f g _ = _
    unfold laws_lkRough_step0
    have hx := hr (l.getD i []) (by rw [List.getD_eq_getElem?_getD, List.getElem?_eq_getElem hi]; exact List.getElem_mem hi)
    simp only [zz_eq, lt_cast hi, le_cast, decide_true, cond_true, Int.toNat_natCast, w64_up (show i < 4294967296 by omega), lkInts_refl f _ hx.1 hx.2, Option.bind_some, Bool.not_true, cond_false]
  · intro g
    show laws_lkRough_step0 f g _ = _
    unfold laws_lkRough_step0
    simp only [zz_eq, nlt_cast, decide_false, cond_false]
theorem lkTop_refl (f : Nat) (l : List Knot) (a b : Int) (hl : l.length < 4294967296) (hf : l.length < f) : laws_lkTop_fn f ((l, a, b, ()), (l, a, b, ()), ()) = some ((true, ()), ()) := by
  show laws_lkTop_pre f (iter (laws_lkTop_st0 f) f) l a b l a b = _
  unfold laws_lkTop_pre
  simp only [bne_self_eq_false, cond_false]
  refine iter_skip (st := laws_lkTop_st0 f) (enc := fun i => ((i : Int), l, a, b, l, a, b)) _ l.length ?_ ?_ l.length 0 f (by omega) hf
  · intro i g hi
    show laws_lkTop_step0 f g _ = _
    unfold laws_lkTop_step0
    simp only [zz_eq, lt_cast hi, le_cast, decide_true, cond_true, Int.toNat_natCast, w64_up (show i < 4294967296 by omega), beq_self_eq_true, Bool.and_self, Bool.not_true, cond_false]
  · intro g
    show laws_lkTop_step0 f g _ = _
    unfold laws_lkTop_step0
    simp only [zz_eq, nlt_cast, decide_false, cond_false]
theorem lkSum_refl (f : Nat) (hf : 1000 < f) (s : SumD) (hs : SmallS s 129) : laws_lkSum_fn f (s, s, ()) = some ((true, ()), ()) := by
  obtain ⟨rs, ms, ps, lost, tall, ks, rall, ⟨⟩⟩ := s
  have h1 := hs.rows; have h2 := hs.row; have h3 := hs.marks; have h4 := hs.pairs; have h5 := hs.knots
  simp only at h1 h2 h3 h4 h5
  show laws_lkSum_pre f rs ms ps lost tall ks rall rs ms ps lost tall ks rall = _
  unfold laws_lkSum_pre
  simp only [lkRough_refl f rs (by omega) (fun r hr => by have := h2 r hr; omega) (by omega), lkInts_refl f ms (by omega) (by omega), lkTop_refl f ps lost tall (by omega) (by omega), lk_refl f ks rall (by omega) (by omega), Option.bind_some, cond_true]
theorem lkSum_same (f : Nat) (hf : 1000 < f) (s : SumD) (hs : SmallS s 129) : laws_lkSum_fn f ((s.1, s.2.1, s.2.2.1, s.2.2.2.1, s.2.2.2.2.1, s.2.2.2.2.2.1, s.2.2.2.2.2.2.1, ()), (s.1, s.2.1, s.2.2.1, s.2.2.2.1, s.2.2.2.2.1, s.2.2.2.2.2.1, s.2.2.2.2.2.2.1, ()), ()) = some ((true, ()), ()) := lkSum_refl f hf s hs
theorem drawOf_ok (f : Nat) (code : List Int) (hb : ∀ x ∈ code, 0 ≤ x ∧ x ≤ 255) (hf : 300 < f) : Ret (spec_DrawSumOf_fn f ((code, ()), ())) fun s => s.1.1.length ≤ 40 := by
  show Ret (spec_DrawSumOf_pre f code) _
  unfold spec_DrawSumOf_pre
  refine Ret.bind (open_ok f code hb) fun y hy => ?_
  rw [hy.2]
  refine Ret.bind (things_ok f y.1 0 30 hy.1 (by omega) (by omega) (by omega) (by omega)) fun z hz => ?_
  have hl : z.2.1.1.length ≤ 31 := by have := hz.2.1; omega
  refine Ret.bind (pick_more hy.1 (by omega) z.1 20 hz.1 (by omega) (by omega)) fun q hq => ?_
  refine Ret.cond (fun _ => ?_) fun _ => Ret.ret (by show z.2.1.1.length ≤ 40; omega)
  refine Ret.bind (pick_more hy.1 (by omega) q.1 2 hq.1 (by omega) (by omega)) fun r hr => ?_
  refine Ret.tst (decide_eq_true hr.2.1) (Ret.tst (decide_eq_true (by have := hr.2.2; rw [zz_eq]; omega)) (Ret.tst (decide_eq_true (by have := hr.2; omega)) (Ret.tst (decide_eq_true (by simp only [LIM]; omega)) (Ret.ret ?_))))
  show (z.2.1.1 ++ [_]).length ≤ 40
  rw [List.length_append, List.length_singleton]; omega
end Go.Proofs.YtdgdoeknpakmlaaGreat.Den
namespace Go.Proofs.YtdgdoeknpakmlaaGreat.Den
open Go
set_option linter.unusedVariables false
set_option linter.unusedSimpArgs false
abbrev FLD (s : SumD) : SumD := (s.1, s.2.1, s.2.2.1, s.2.2.2.1, s.2.2.2.2.1, s.2.2.2.2.2.1, s.2.2.2.2.2.2.1, ())
end Go.Proofs.YtdgdoeknpakmlaaGreat.Den
namespace Go.Proofs.YtdgdoeknpakmlaaGreat.Den
open Go
set_option linter.unusedVariables false
set_option linter.unusedSimpArgs false
end Go.Proofs.YtdgdoeknpakmlaaGreat.Den
namespace Go.Proofs.YtdgdoeknpakmlaaGreat.Den
open Go
set_option linter.unusedVariables false
set_option linter.unusedSimpArgs false
theorem fine_go (f : Nat) (l : List Int) (hl : l.length < 1000000) : ∀ (d i : Nat) (out : List Int) (fuel : Nat), i + d = l.length → out.length ≤ i → d < fuel →
    iter (laws_lkFine_st0 f) fuel ((i : Int), l, out) = some ((out ++ (l.drop i).filter thingB, ()), ())
  | _, _, _, 0, _, _, h => by omega
  | 0, i, out, fuel + 1, hi, _, _ => by
    rw [iter]
    show laws_lkFine_step0 f _ _ = _
    unfold laws_lkFine_step0
    obtain rfl : i = l.length := by omega
    simp only [zz_eq, nlt_cast, decide_false, cond_false, List.drop_eq_nil_of_le (Nat.le_refl _), List.filter_nil, List.append_nil]
  | d + 1, i, out, fuel + 1, hi, ho, hfu => by
    rw [iter]
    show laws_lkFine_step0 f _ _ = _
    unfold laws_lkFine_step0
    have hlt : i < l.length := by omega
    have h1 : out.length + 1 < LIM := by simp only [LIM]; omega
    have e1 := fine_go f l hl d (i + 1) out fuel (by omega) (by omega) (by omega)
    have e2 := fine_go f l hl d (i + 1) (out ++ [l.getD i 0]) fuel (by omega) (by rw [List.length_append, List.length_singleton]; omega) (by omega)
    simp only [zz_eq, lt_cast hlt, le_cast, decide_true, cond_true, Int.toNat_natCast, w64_up (show i < 4294967296 by omega), h1, e1, e2]
    rw [drop_getD 0 hlt]
    obtain ⟨x, hx⟩ : ∃ x : Int, l.getD i 0 = x := ⟨_, rfl⟩
    simp only [hx]
    by_cases c1 : x ≥ 0
    · by_cases c2 : x < 64
      · have : thingB x = true := by unfold thingB; exact decide_eq_true (by omega)
        simp only [c1, c2, decide_true, cond_true, List.filter_cons, this, if_true, List.append_assoc, List.singleton_append]
      · have : thingB x = false := by unfold thingB; exact decide_eq_false (by omega)
        simp only [c1, c2, decide_true, decide_false, cond_true, cond_false, List.filter_cons, this, Bool.false_eq_true, if_false]
    · have : thingB x = false := by unfold thingB; exact decide_eq_false (by omega)
      simp only [c1, decide_false, cond_false, List.filter_cons, this, Bool.false_eq_true, if_false]
theorem lkFine_eq (f : Nat) (l : List Int) (hl : l.length < 1000000) (hf : l.length < f) : laws_lkFine_fn f ((l, ()), ()) = some ((l.filter thingB, ()), ()) := by
  show iter (laws_lkFine_st0 f) f ((0 : Int), l, []) = _
  exact (fine_go f l hl l.length 0 [] f (by omega) (by simp) hf).trans rfl
theorem times_eq (f : Nat) (l : List Int) (t : Int) (hl : l.length < 1000000) (hf : l.length < f) : laws_lkTimes_fn f ((l, ()), (t, ()), ()) = some ((((l.count t : Nat) : Int), ()), ()) := by
  show iter (laws_lkTimes_st0 f) f ((0 : Int), l, t, (0 : Int)) = _
  refine (iter_list (st := laws_lkTimes_st0 f) (enc := fun i (n : Int) => ((i : Int), l, t, n)) (fun (x : Int) k n => k (cond (x == t) (w64 (n + 1)) n)) (fun n => some ((n, ()), ())) l 0 ?_ ?_ f 0 hf).trans ?_
  · intro i n g hi
    show laws_lkTimes_step0 f g _ = _
    unfold laws_lkTimes_step0
    simp only [zz_eq, lt_cast hi, le_cast, decide_true, cond_true, Int.toNat_natCast, w64_up (show i < 4294967296 by omega)]
    cases (l.getD i 0 == t) <;> rfl
  · intro n g
    show laws_lkTimes_step0 f g _ = _
    unfold laws_lkTimes_step0
    simp only [zz_eq, nlt_cast, decide_false, cond_false]
  · rw [fold_go (fun (n : Int) x => cond (x == t) (w64 (n + 1)) n) (fun _ _ _ => rfl)]
    have gen : ∀ (l : List Int) (n : Nat), n + l.length < 2000000 → l.foldl (fun (n : Int) x => cond (x == t) (w64 (n + 1)) n) (n : Int) = ((n + l.count t : Nat) : Int) := by
      intro l
      induction l with
      | nil => intro n _; rfl
      | cons x l ih =>
        intro n hn
        simp only [List.length_cons] at hn
        rw [List.foldl_cons, List.count_cons]
        cases hc : x == t
        · simp only [cond_false, Bool.false_eq_true, if_false]
          rw [ih n (by omega)]; rfl
        · have e : w64 ((n : Int) + 1) = ((n + 1 : Nat) : Int) := by rw [w64_id] <;> omega
          simp only [cond_true, if_true, e]
          rw [ih (n + 1) (by omega)]; congr 1; omega
    have := gen l 0 (by omega)
    simp only [Nat.zero_add] at this
    exact congrArg (fun n => some ((n, ()), ())) this
end Go.Proofs.YtdgdoeknpakmlaaGreat.Den
namespace Go.Proofs.YtdgdoeknpakmlaaGreat.Den
open Go
set_option linter.unusedVariables false
set_option linter.unusedSimpArgs false
theorem tfind_eq {lost t : Int} (h0 : 0 ≤ lost) (h1 : lost ≤ 2000) : ∀ {l : List Knot}, SA l → Pos 2000 l → tfind lost t l = (cntK l t, cntK l t + lost)
  | [], _, _ => by show (0, lost) = (0, 0 + lost); rw [Int.zero_add]
  | x :: r, hs, hp => by
    have hs' := List.pairwise_cons.1 hs
    have px := hp x (List.mem_cons_self ..)
    have ih := tfind_eq (t := t) h0 h1 hs'.2 (fun y hy => hp y (List.mem_cons_of_mem _ hy))
    have e : w64 (x.2.1 + lost) = x.2.1 + lost := by rw [w64_id] <;> omega
    unfold tfind
    by_cases c : x.1 = t
    · have c0 : cntK r t = 0 := cntK_none fun y hy => by have := hs'.1 y hy; omega
      have b : (x.1 == t) = true := by simpa using c
      rw [b, cond_true, e]
      show _ = ((if x.1 = t then x.2.1 else 0) + cntK r t, (if x.1 = t then x.2.1 else 0) + cntK r t + lost)
      rw [if_pos c, c0, Int.add_zero]
    · have b : (x.1 == t) = false := by simpa using c
      rw [b, cond_false, ih]
      show _ = ((if x.1 = t then x.2.1 else 0) + cntK r t, (if x.1 = t then x.2.1 else 0) + cntK r t + lost)
      rw [if_neg c, Int.zero_add]
theorem topGet_eq {ps : List Knot} {lost all t : Int} (h : topB ps lost all = true) (ht : thingB t = true) : topGet ps lost all t = (cntK ps t, cntK ps t + lost) := by
  have b := topB_spec h
  unfold topGet
  rw [h, ht]
  exact tfind_eq b.2.2.2.1 b.2.2.2.2.1 b.1 b.2.1
theorem roughGet_eq {rs : List (List Int)} {t : Int} (h : roughB rs = true) (ht : thingB t = true) : roughGet rs t = lesser (cell rs 2 (pl 2 t)) (lesser (cell rs 1 (pl 1 t)) (cell rs 0 (pl 0 t))) := by
  unfold roughGet
  rw [h, ht]; rfl
theorem le_lesser {x n m : Int} (h : m ≤ x) (h' : m ≤ n) : m ≤ lesser x n := by unfold lesser; split <;> assumption
theorem count_pl {l : List Int} {t : Int} (i : Nat) : l.count t ≤ l.countP fun x => pl i x == pl i t := by
  unfold List.count
  exact List.countP_mono_left fun x _ h => by
    have : x = t := by simpa using h
    rw [this]; simp
theorem rough_ge {l : List Int} {s : SumD} {t : Int} (T : Tells l s) (ht : thingB t = true) : ((l.count t : Nat) : Int) ≤ roughGet s.1 t := by
  rw [roughGet_eq T.form.rough ht]
  refine le_lesser ?_ (le_lesser ?_ ?_)
  · rw [T.rough 2 (by omega)]; have := @count_pl l t 2; omega
  · rw [T.rough 1 (by omega)]; have := @count_pl l t 1; omega
  · rw [T.rough 0 (by omega)]; have := @count_pl l t 0; omega
theorem mark_inj {t u : Int} (ht : thingB t = true) (hu : thingB u = true) (h : mark t = mark u) : t = u := by
  have a := thing_le ht
  have b := thing_le hu
  have e : ∀ {t : Int}, thingB t = true → mark t = (t * 37 + 11) % 64 := fun {t} ht => by
    have a := thing_le ht
    unfold mark
    rw [ht, cond_true]
    have e1 : w64 (t * 37) = t * 37 := by rw [w64_id] <;> omega
    have e2 : w64 (t * 37 + 11) = t * 37 + 11 := by rw [w64_id] <;> omega
    rw [e1, e2, Int.tmod_eq_emod_of_nonneg (by omega)]
  rw [e ht, e hu] at h
  omega
theorem fst6_has {p : Int → Bool} {m : Int} (h0 : 0 ≤ m) (h1 : m < 64) (hp : p m = true) (hk : (fst6 p).length < 6 ∨ m < (fst6 p).getD 5 0) : m ∈ fst6 p := by
  have hm : m ∈ ascN p 64 0 := ascN_mem.2 ⟨h0, by omega, hp⟩
  have hg := ascN_go (p := p) (d := 64) (i := 0) (b := -1) (by omega) (by omega)
  unfold fst6 at hk ⊢
  generalize ascN p 64 0 = L at hm hg hk ⊢
  rcases hk with hk | hk
  · rw [List.length_take] at hk
    rw [List.take_of_length_le (by omega)]; exact hm
  · by_cases hl : L.length ≤ 6
    · rw [List.take_of_length_le hl]; exact hm
    · -- what stands behind the sixth is not below it
      have up : ∀ (L : List Int) (b : Int) (n : Nat), fewGo L b = true → ∀ x ∈ L.drop n, n ≥ 1 → L.getD (n - 1) 0 < x := by
        intro L
        induction L with
        | nil => intro b n _ x hx _; simp at hx
        | cons y r ih =>
          intro b n hg x hx hn
          simp only [fewGo, Bool.and_eq_true, decide_eq_true_eq] at hg
          cases n with
          | zero => omega
          | succ n =>
            rw [List.drop_succ_cons] at hx
            cases n with
            | zero => exact (fewGo_lt hg.2 (by simpa using hx)).1
            | succ n =>
              have := ih y (n + 1) hg.2 x hx (by omega)
              simpa using this
      rw [← List.take_append_drop 6 L] at hm
      rcases List.mem_append.1 hm with hm | hm
      · exact hm
      · have := up L (-1) 6 hg m hm (by omega)
        rw [List.getD_eq_getElem?_getD, List.getElem?_take_of_lt (by omega), ← List.getD_eq_getElem?_getD] at hk
        have e : (6 - 1 : Nat) = 5 := rfl
        rw [e] at this
        omega
theorem few_says {l : List Int} {s : SumD} {t : Int} (T : Tells l s) (ht : thingB t = true) : ((fewHas s.2.1 t).1 = true → 0 < l.count t) ∧ ((fewHas s.2.1 t).1 = false → (fewHas s.2.1 t).2 = true → l.count t = 0) := by
  have hm := mark_rng ht
  have inl : (∃ u ∈ l, mark u = mark t) → 0 < l.count t := fun ⟨u, hu, e⟩ => by
    have := mark_inj (T.things u hu) ht e
    subst this
    exact List.count_pos_iff.2 hu
  have fh : fewHas s.2.1 t = cond (s.2.1.contains (mark t)) (true, true) (false, decide (s.2.1.length < 6) || decide (mark t < s.2.1.getD 5 0)) := by
    unfold fewHas
    rw [T.form.few, ht]; rfl
  rw [fh]
  cases hc : s.2.1.contains (mark t) with
  | true =>
    refine ⟨fun _ => ?_, fun h => (by cases h)⟩
    have h := List.contains_iff_mem.1 hc
    rw [T.few] at h
    have h2 := (ascN_mem.1 (List.mem_of_mem_take h)).2.2
    rw [List.any_eq_true] at h2
    obtain ⟨u, hu, e⟩ := h2
    exact inl ⟨u, hu, by simpa using e⟩
  | false =>
    refine ⟨fun h => (by cases h), fun _ hk => ?_⟩
    rcases Nat.eq_zero_or_pos (l.count t) with h | h
    · exact h
    · exfalso
      have hmem := List.count_pos_iff.1 h
      have hp : (fun k => l.any fun t => mark t == k) (mark t) = true := List.any_eq_true.2 ⟨t, hmem, by simp⟩
      have hk' : s.2.1.length < 6 ∨ mark t < s.2.1.getD 5 0 := by
        have : (decide (s.2.1.length < 6) || decide (mark t < s.2.1.getD 5 0)) = true := hk
        simpa using this
      rw [T.few] at hk'
      have := fst6_has hm.1 (by omega) hp hk'
      rw [← T.few, ← List.contains_iff_mem, hc] at this
      cases this
end Go.Proofs.YtdgdoeknpakmlaaGreat.Den
namespace Go.Proofs.YtdgdoeknpakmlaaGreat.Den
open Go
set_option linter.unusedVariables false
set_option linter.unusedSimpArgs false
theorem fine_some2 {l : List Int} (hl : l.length ≤ 40) : (l.filter thingB).length ≤ 40 ∧ (sumOf (l.filter thingB)).2 = true := by
  have h : (l.filter thingB).length ≤ 40 := Nat.le_trans (List.length_filter_le _ _) hl
  exact ⟨h, sumOf_some (fun t ht => (List.mem_filter.1 ht).2) (by omega)⟩
structure TopOf (a b : List Int) (ps : List Knot) (lost all : Int) : Prop where
  top : topB ps lost all = true
  all : all = (a.length : Int) + (b.length : Int)
  says : ∀ k, cntK ps k ≤ ((a.count k : Nat) : Int) + ((b.count k : Nat) : Int) ∧ ((a.count k : Nat) : Int) + ((b.count k : Nat) : Int) ≤ cntK ps k + lost
theorem TopOf.lost {a b : List Int} {ps : List Knot} {lost all : Int} (h : TopOf a b ps lost all) (ha : a.length ≤ 40) (hb : b.length ≤ 40) :
    w64 (Int.tdiv (w64 (zz a.length + zz b.length)) 5) = ((a.length : Int) + (b.length : Int)) / 5 ∧ lost ≤ ((a.length : Int) + (b.length : Int)) / 5 ∧ 0 ≤ lost := by
  have s := topB_sum h.top
  have b' := topB_spec h.top
  have nn := sumN_nn b'.2.1
  have e1 : w64 (zz a.length + zz b.length) = (a.length : Int) + (b.length : Int) := by rw [zz_eq, zz_eq, w64_id] <;> omega
  have e2 : Int.tdiv ((a.length : Int) + (b.length : Int)) 5 = ((a.length : Int) + (b.length : Int)) / 5 := Int.tdiv_eq_ediv_of_nonneg (by omega)
  have e := h.all
  refine ⟨by rw [e1, e2, w64_id] <;> omega, by omega, b'.2.2.2.1⟩
end Go.Proofs.YtdgdoeknpakmlaaGreat.Den
namespace Go.Proofs.YtdgdoeknpakmlaaGreat.Den
open Go
set_option linter.unusedVariables false
set_option linter.unusedSimpArgs false
theorem get_key {l : List Int} {s : SumD} {t : Int} (T : Tells l s) (ht : thingB t = true) : (getD' s t).1 ≤ ((l.count t : Nat) : Int) ∧ ((l.count t : Nat) : Int) ≤ (getD' s t).2 ∧ (getD' s t).2 ≤ roughGet s.1 t := by
  have tp := T.top t
  have tg := topGet_eq T.form.top ht
  have rg := rough_ge T ht
  have fs := few_says T ht
  have eg : getD' s t = (cond ((fewHas s.2.1 t).2 && !(fewHas s.2.1 t).1) (0, 0)
      (cond (fewHas s.2.1 t).1 (if (1 : Int) > cntK (pt s) t then 1 else cntK (pt s) t) (cntK (pt s) t), lesser (roughGet s.1 t) (cntK (pt s) t + ptLost s))) := by
    unfold getD' sumGet
    rw [tg, show sumB s.1 s.2.1 s.2.2.1 s.2.2.2.1 s.2.2.2.2.1 s.2.2.2.2.2.1 s.2.2.2.2.2.2.1 = sumBD s from rfl, form_iff.2 T.form, ht]; rfl
  have key : (getD' s t).1 ≤ ((l.count t : Nat) : Int) ∧ ((l.count t : Nat) : Int) ≤ (getD' s t).2 ∧ (getD' s t).2 ≤ roughGet s.1 t := by
    rw [eg]
    have hl2 := @lesser_le (roughGet s.1 t) (cntK (pt s) t + ptLost s)
    have hl3 : lesser (roughGet s.1 t) (cntK (pt s) t + ptLost s) ≤ roughGet s.1 t := by unfold lesser; split <;> omega
    have hl4 : ((l.count t : Nat) : Int) ≤ lesser (roughGet s.1 t) (cntK (pt s) t + ptLost s) := le_lesser rg tp.2
    cases h1 : (fewHas s.2.1 t).1 with
    | true =>
      have := fs.1 h1
      rw [Bool.not_true, Bool.and_false, cond_false, cond_true]
      refine ⟨?_, hl4, hl3⟩
      show (if (1 : Int) > cntK (pt s) t then 1 else cntK (pt s) t) ≤ _
      split <;> omega
    | false =>
      cases h2 : (fewHas s.2.1 t).2 with
      | true =>
        have := fs.2 h1 h2
        rw [Bool.not_false, Bool.and_self, cond_true]
        refine ⟨?_, ?_, ?_⟩
        · show (0 : Int) ≤ _; omega
        · show _ ≤ (0 : Int); omega
        · show (0 : Int) ≤ _; omega
      | false => exact ⟨tp.1, hl4, hl3⟩
  exact key
theorem lawSumJoinGet (f : Nat) (hf : 1000 < f) (code more : List Int) (hb : ∀ x ∈ code, 0 ≤ x ∧ x ≤ 255) (hm : ∀ x ∈ more, 0 ≤ x ∧ x ≤ 255) : laws_FnSumJoinGet_fn f ((code, ()), (more, ()), ()) = some ((true, ()), ()) := by
  refine Ret.eq ?_
  show Ret (laws_FnSumJoinGet_pre f (iter (laws_FnSumJoinGet_st0 f) f) code more) _
  unfold laws_FnSumJoinGet_pre
  refine Ret.cond (fun _ => Ret.ret rfl) fun _ => Ret.cond (fun _ => Ret.ret rfl) fun _ => ?_
  refine Ret.bind (drawOf_ok f code hb (by omega)) fun y hl => ?_
  obtain ⟨⟨l, ⟨⟩⟩, ⟨⟩⟩ := y
  have hl : l.length ≤ 40 := hl
  refine Ret.bind (Ret.of (lkFine_eq f l (by omega) (by omega))) fun z hz => ?_
  subst hz
  refine Ret.bind (drawOf_ok f more hm (by omega)) fun y hl2 => ?_
  obtain ⟨⟨m, ⟨⟩⟩, ⟨⟩⟩ := y
  have hl2 : m.length ≤ 40 := hl2
  refine Ret.bind (Ret.of (lkFine_eq f m (by omega) (by omega))) fun z hz => ?_
  subst hz
  obtain ⟨la, sa⟩ := fine_some2 hl
  obtain ⟨lb, sb⟩ := fine_some2 hl2
  generalize l.filter thingB = a at la sa
  generalize m.filter thingB = b at lb sb
  have ha := (sumOf_small a).mono (show 128 ≤ 129 by omega)
  have hb' := (sumOf_small b).mono (show 128 ≤ 129 by omega)
  have Ta := sumOf_tells sa
  have Tb := sumOf_tells sb
  simp only [specSumOf_eq f a (by omega) (by omega) (by omega), implSumOf_eq f hf a (by omega) (by omega), implSumOf_eq f hf b (by omega) (by omega), Option.bind_some, lkSum_same f hf _ ha, beq_self_eq_true, Bool.not_true, cond_false, cond_true, sa, sb]
  obtain ⟨j1, TJ⟩ := tells_join Ta Tb (by omega)
  have ej : impl_SumJoin_fn f (FLD (sumOf a).1, FLD (sumOf b).1, ()) = some ((sumJoin (sumOf a).1 (sumOf b).1).1, ((sumJoin (sumOf a).1 (sumOf b).1).2, ()), ()) := implSumJoin_eq f hf _ _ ha hb'
  have hj := (sumJoin_small (sumOf a).1 (sumOf b).1).mono (show 128 ≤ 129 by omega)
  rw [j1] at ej
  generalize (sumJoin (sumOf a).1 (sumOf b).1).1 = J at ej TJ hj
  refine Ret.bind (Ret.of ej) fun z hz => ?_
  subst hz
  refine Ret.of ?_
  refine iter_skip (st := laws_FnSumJoinGet_st0 f) (enc := fun i => ((i : Int), true, a, b, J.1, J.2.1, J.2.2.1, J.2.2.2.1, J.2.2.2.2.1, J.2.2.2.2.2.1, J.2.2.2.2.2.2.1)) _ 64 ?_ ?_ 64 0 f rfl (by omega)
  · intro i g hi
    show laws_FnSumJoinGet_step0 f g _ = _
    unfold laws_FnSumJoinGet_step0
    have ht : thingB (i : Int) = true := by unfold thingB; exact decide_eq_true (by omega)
    have ky := get_key TJ ht
    rw [List.count_append] at ky
    have e1 : impl_SumGet_fn f (FLD J, ((i : Int), ()), ()) = some (((getD' J (i : Int)).1, ()), ((getD' J (i : Int)).2, ()), ()) := implGetD_eq f J hj (by omega) (i : Int)
    have c : (i : Int) < 64 := by omega
    have ca := List.count_le_length (a := (i : Int)) (l := a)
    have cb := List.count_le_length (a := (i : Int)) (l := b)
    have ew : w64 (((a.count (i : Int) : Nat) : Int) + ((b.count (i : Int) : Nat) : Int)) = ((a.count (i : Int) : Nat) : Int) + ((b.count (i : Int) : Nat) : Int) := by rw [w64_id] <;> omega
    have n1 : ¬ ((a.count (i : Int) : Nat) : Int) + ((b.count (i : Int) : Nat) : Int) < (getD' J (i : Int)).1 := by omega
    have n2 : ¬ ((a.count (i : Int) : Nat) : Int) + ((b.count (i : Int) : Nat) : Int) > (getD' J (i : Int)).2 := by omega
    simp only [c, decide_true, cond_true, e1, times_eq f a (i : Int) (by omega) (by omega), times_eq f b (i : Int) (by omega) (by omega), Option.bind_some, ew, n1, n2, decide_false, cond_false, w64_up (show i < 4294967296 by omega)]
  · intro g
    show laws_FnSumJoinGet_step0 f g _ = _
    unfold laws_FnSumJoinGet_step0
    have c : ¬ (((64 : Nat) : Int) < 64) := by omega
    simp only [c, decide_false, cond_false]
theorem pureSumJoinGet (a b : CsT bytesC) (ha : wfCs bytesC a) (hb : wfCs bytesC b) : ∃ fuel, laws_FnSumJoinGet_fn fuel (a, (b, ())) = some ((true, ()), ()) := by
  obtain ⟨code, ⟨⟩⟩ := a
  obtain ⟨more, ⟨⟩⟩ := b
  exact ⟨1001, lawSumJoinGet 1001 (by omega) code more (bytes_of ha).2 (bytes_of hb).2⟩
end Go.Proofs.YtdgdoeknpakmlaaGreat.Den
