/- Part 14 of the texts behind the row. -/
import Derived.Test.YtdgdoeknpakmlaaGreatBe107b2cdc8
set_option linter.unusedVariables false
set_option linter.unusedSimpArgs false
namespace Go.Proofs.YtdgdoeknpakmlaaGreat.Den
open Go
def In2k (l : List Int) : Prop := ∀ x ∈ l, 0 ≤ x ∧ x ≤ 2000
theorem zDc {l : List Int} (h : In2k l) (hl : l.length ≤ 1000) : isum l = l.sum := by
  have gen : ∀ (l : List Int) (s : Int), In2k l → 0 ≤ s → s + 2000 * l.length ≤ 4000000 → l.foldl (fun s x => w64 (s + x)) s = s + l.sum := by
    intro l
    induction l with
    | nil => intro s _ _ _; simp
    | cons x l ih =>
      intro s h h0 hb
      have hx := h x (List.mem_cons_self ..)
      simp only [List.length_cons] at hb
      have e : w64 (s + x) = s + x := by rw [w64_id] <;> omega
      rw [List.foldl_cons, e, ih (s + x) (fun y hy => h y (List.mem_cons_of_mem _ hy)) (by omega) (by omega), List.sum_cons]; omega
  unfold isum
  rw [gen l 0 h (by omega) (by omega)]; omega
theorem sum_nn : ∀ {l : List Int}, (∀ x ∈ l, 0 ≤ x) → 0 ≤ l.sum
  | [], _ => by simp
  | x :: l, h => by
    have h1 := h x (List.mem_cons_self ..)
    have h2 := sum_nn fun y hy => h y (List.mem_cons_of_mem _ hy)
    rw [List.sum_cons]; omega
theorem le_sum : ∀ {l : List Int}, (∀ x ∈ l, 0 ≤ x) → ∀ x ∈ l, x ≤ l.sum
  | y :: l, h, x, hx => by
    have h1 := h y (List.mem_cons_self ..)
    have h2 := sum_nn fun z hz => h z (List.mem_cons_of_mem _ hz)
    rw [List.sum_cons]
    rcases List.mem_cons.1 hx with rfl | hx
    · omega
    · have := le_sum (fun z hz => h z (List.mem_cons_of_mem _ hz)) x hx; omega
theorem rowB_of {l : List Int} (h8 : l.length = 8) (hn : ∀ x ∈ l, 0 ≤ x) (hs : l.sum ≤ 2000) : rowB l = true ∧ isum l = l.sum := by
  have h2 : In2k l := fun x hx => ⟨hn x hx, by have := le_sum hn x hx; omega⟩
  have e := zDc h2 (by omega)
  refine ⟨?_, e⟩
  unfold rowB
  simp only [h8, e, hs, decide_true, Bool.true_and, Bool.and_true, List.all_eq_true]
  intro x hx
  exact decide_eq_true (h2 x hx)
theorem zmn {l : List Int} (h : rowB l = true) : l.length = 8 ∧ In2k l ∧ isum l = l.sum ∧ 0 ≤ l.sum ∧ l.sum ≤ 2000 := by
  have h8 := row_len h
  have h2 : In2k l := row_all h
  have e := zDc h2 (by omega)
  refine ⟨h8, h2, e, sum_nn fun x hx => (h2 x hx).1, ?_⟩
  unfold rowB at h
  simp only [Bool.and_eq_true, decide_eq_true_eq] at h
  omega
theorem zip_sum : ∀ {a b : List Int}, a.length = b.length → In2k a → In2k b → (zipAdd a b).sum = a.sum + b.sum ∧ (∀ x ∈ zipAdd a b, 0 ≤ x) ∧ ∀ j, (zipAdd a b).getD j 0 = a.getD j 0 + b.getD j 0
  | [], [], _, _, _ => ⟨by simp [zipAdd], fun x hx => by simp [zipAdd] at hx, fun j => by simp [zipAdd]⟩
  | [], _ :: _, h, _, _ => by simp at h
  | _ :: _, [], h, _, _ => by simp at h
  | x :: a, y :: b, h, ha, hb => by
    have hx := ha x (List.mem_cons_self ..)
    have hy := hb y (List.mem_cons_self ..)
    obtain ⟨i1, i2, i3⟩ := zip_sum (a := a) (b := b) (by simpa using h) (fun z hz => ha z (List.mem_cons_of_mem _ hz)) (fun z hz => hb z (List.mem_cons_of_mem _ hz))
    have e : w64 (x + y) = x + y := by rw [w64_id] <;> omega
    have ez : zipAdd (x :: a) (y :: b) = (x + y) :: zipAdd a b := by show w64 (x + y) :: zipAdd a b = _; rw [e]
    rw [ez]
    refine ⟨by rw [List.sum_cons, List.sum_cons, List.sum_cons, i1]; omega, fun z hz => ?_, fun j => ?_⟩
    · rcases List.mem_cons.1 hz with rfl | hz
      · omega
      · exact i2 z hz
    · cases j with
      | zero => rfl
      | succ j => rw [List.getD_cons_succ, List.getD_cons_succ, List.getD_cons_succ]; exact i3 j
theorem zip_row {a b : List Int} (ha : rowB a = true) (hb : rowB b = true) (hs : isum a + isum b ≤ 2000) :
    rowB (zipAdd a b) = true ∧ isum (zipAdd a b) = isum a + isum b ∧ ∀ j, (zipAdd a b).getD j 0 = a.getD j 0 + b.getD j 0 := by
  obtain ⟨h8, h2, e, s0, s1⟩ := zmn ha
  obtain ⟨h8', h2', e', s0', s1'⟩ := zmn hb
  obtain ⟨i1, i2, i3⟩ := zip_sum (by omega : a.length = b.length) h2 h2'
  have r := rowB_of (zOH h8 h8') i2 (by omega)
  exact ⟨r.1, by rw [r.2, i1, e, e'], i3⟩
theorem zOV {a b c : List Int} (ha : rowB a = true) (hb : rowB b = true) (hc : rowB c = true) (h1 : isum b = isum a) (h2 : isum c = isum a) : roughB [a, b, c] = true := by
  unfold roughB
  simp [ha, hb, hc, h1, h2]
theorem allR_eq {rs : List (List Int)} (h : roughB rs = true) : allR rs = isum (rs.getD 0 []) := by unfold allR; rw [h]; rfl
def cell (rs : List (List Int)) (i j : Nat) : Int := (rs.getD i []).getD j 0
theorem zDd {x y : List (List Int)} (h : roughB x = true) (h' : roughB y = true) (hs : allR x + allR y ≤ 2000) :
    (roughJoin x y).2 = true ∧ roughB (roughJoin x y).1 = true ∧ allR (roughJoin x y).1 = allR x + allR y ∧ ∀ i, i < 3 → ∀ j, cell (roughJoin x y).1 i j = cell x i j + cell y i j := by
  rw [allR_eq h, allR_eq h'] at hs ⊢
  obtain ⟨a, b, c, rfl, ha, hb, hc, e1, e2⟩ := zaG h
  obtain ⟨a', b', c', rfl, ha', hb', hc', e1', e2'⟩ := zaG h'
  rw [List.getD_cons_zero, List.getD_cons_zero] at hs ⊢
  have sa := zmn ha
  have sa' := zmn ha'
  have ew : w64 (isum a + isum a') = isum a + isum a' := by rw [w64_id] <;> omega
  obtain ⟨a1, a2, a3⟩ := zip_row ha ha' hs
  obtain ⟨b1, b2, b3⟩ := zip_row hb hb' (by omega)
  obtain ⟨c1, c2, c3⟩ := zip_row hc hc' (by omega)
  have er : roughJoin [a, b, c] [a', b', c'] = ([zipAdd a a', zipAdd b b', zipAdd c c'], true) := by
    unfold roughJoin
    simp only [h, h', List.getD_cons_zero, ew, hs, decide_true, Bool.and_self, cond_true]
    rfl
  rw [er]
  have hB := zOV a1 b1 c1 (by omega) (by omega)
  refine ⟨rfl, hB, by rw [allR_eq hB]; exact a2, fun i hi j => ?_⟩
  match i, hi with
  | 0, _ => exact a3 j
  | 1, _ => exact b3 j
  | 2, _ => exact c3 j
def sumN : List Knot → Int
  | [] => 0
  | x :: r => x.2.1 + sumN r
theorem sumN_nn {m : Int} : ∀ {l : List Knot}, Pos m l → 0 ≤ sumN l
  | [], _ => Int.le_refl 0
  | x :: r, h => by
    have h1 := h x (List.mem_cons_self ..)
    have h2 := sumN_nn (l := r) fun y hy => h y (List.mem_cons_of_mem _ hy)
    show 0 ≤ x.2.1 + sumN r; omega
theorem zDe {all : Int} : ∀ {l : List Knot} {p s : Int}, 0 ≤ s → s + 2000 * l.length ≤ 1000000 → topGo all l p s = true → s + sumN l ≤ all
  | [], p, s, _, _, h => by simp only [topGo, decide_eq_true_eq] at h; simp only [sumN]; omega
  | x :: r, p, s, h0, hb, h => by
    simp only [topGo, Bool.and_eq_true, decide_eq_true_eq] at h
    simp only [List.length_cons] at hb
    have e : w64 (s + x.2.1) = s + x.2.1 := by rw [w64_id] <;> omega
    rw [e] at h
    have := zDe (l := r) (by omega) (by omega) h.2
    simp only [sumN]; omega
theorem zDf {all m : Int} (ha : all ≤ 2000) : ∀ {l : List Knot} {p s : Int}, 0 ≤ s → SA l → Pos m l → (∀ x ∈ l, p < x.1) → s + sumN l ≤ all → topGo all l p s = true
  | [], p, s, _, _, _, _, h => by simp only [topGo, decide_eq_true_eq]; simp only [sumN] at h; omega
  | x :: r, p, s, h0, hs, hp, hx, h => by
    have hs' := List.pairwise_cons.1 hs
    have px := hp x (List.mem_cons_self ..)
    have pr : Pos m r := fun y hy => hp y (List.mem_cons_of_mem _ hy)
    have nn := sumN_nn pr
    simp only [sumN] at h
    have e : w64 (s + x.2.1) = s + x.2.1 := by rw [w64_id] <;> omega
    simp only [topGo, Bool.and_eq_true, decide_eq_true_eq, e]
    exact ⟨⟨hx x (List.mem_cons_self ..), px.2.1, px.2.2.1, by omega⟩, zDf ha (by omega) hs'.2 pr hs'.1 (by omega)⟩
theorem zDg {l : List Knot} {lost all : Int} (h : topB l lost all = true) : sumN l + 5 * lost ≤ all := by
  have f := four h
  unfold topB at h
  simp only [Bool.and_eq_true] at h
  have := zDe (by omega) (by omega) h.2
  omega
theorem topB_mk {l : List Knot} {lost all m : Int} (hs : SA l) (hp : Pos m l) (h4 : l.length ≤ 4) (h0 : 0 ≤ lost) (ha0 : 0 ≤ all) (ha : all ≤ 2000) (h : sumN l + 5 * lost ≤ all) : topB l lost all = true := by
  have nn := sumN_nn hp
  unfold topB
  simp only [Bool.and_eq_true, decide_eq_true_eq]
  exact ⟨⟨h4, h0, by omega, ha0, ha⟩, zDf ha (by omega) hs hp (fun x hx => by have := hp x hx; omega) (by omega)⟩
theorem zDh {t n : Int} : ∀ {l : List Knot} {m : Int}, Pos m l → 0 ≤ n → n ≤ 1000000 → m ≤ 1000000 → sumN (putP t n l false) = sumN l + n
  | [], m, _, _, _, _ => by show n + 0 = 0 + n; omega
  | x :: r, m, hp, h0, h1, hm => by
    have px := hp x (List.mem_cons_self ..)
    unfold putP
    simp only [zrB, Bool.not_false, Bool.true_and]
    cases hc : decide (x.1 ≥ t)
    · simp only [cond_false]
      show x.2.1 + sumN (putP t n r false) = x.2.1 + sumN r + n
      rw [zDh (fun y hy => hp y (List.mem_cons_of_mem _ hy)) h0 h1 hm]; omega
    · simp only [cond_true]
      cases hd : (x.1 == t)
      · simp only [cond_false]
        show n + (x.2.1 + sumN r) = x.2.1 + sumN r + n
        omega
      · have e : w64 (n + x.2.1) = n + x.2.1 := by rw [w64_id] <;> omega
        simp only [cond_true, e]
        show n + x.2.1 + sumN r = x.2.1 + sumN r + n
        omega
theorem zDi {m : Int} (hm : 2000 ≤ m) : ∀ {b a : List Knot}, m + 2000 * b.length ≤ 1000000 → SA a → Pos m a → Pos 2000 b → sumN (putAll a b) = sumN a + sumN b
  | [], a, _, _, _, _ => by show sumN a = sumN a + 0; omega
  | x :: b, a, hb, hs, hp, pb => by
    have px := pb x (List.mem_cons_self ..)
    simp only [List.length_cons] at hb
    obtain ⟨i1, i2, -, -⟩ := zrC (m := m) (t := x.1) (n := x.2.1) (p := -1) ⟨px.1, px.2.1⟩ px.2.2.1 (by omega) (by omega) hs hp (by omega) (fun y hy => by have := hp y hy; omega)
    have ih := zDi (m := m + 2000) (by omega) (b := b) (a := putP x.1 x.2.1 a false) (by omega) i1 (i2.mono (by omega)) (fun y hy => pb y (List.mem_cons_of_mem _ hy))
    show sumN (putAll (putP x.1 x.2.1 a false) b) = sumN a + (x.2.1 + sumN b)
    rw [ih, zDh hp (by omega) (by omega) (by omega)]; omega
theorem zDj {m M : Int} (h0 : 0 ≤ m) (h1 : m ≤ 1000000) (hM : M ≤ 1000000) : ∀ {l : List Knot}, SA l → Pos M l → SA (less3 m l) ∧ Pos M (less3 m l) ∧ (∀ x ∈ less3 m l, ∃ y ∈ l, y.1 = x.1) ∧
    sumN (less3 m l) + m * (l.countP fun y => decide (y.2.1 ≥ m)) ≤ sumN l ∧ (less3 m l).length = (l.countP fun y => decide (m < y.2.1)) ∧
    ∀ k, cntK (less3 m l) k ≤ cntK l k ∧ cntK l k ≤ cntK (less3 m l) k + m
  | [], hs, hp => ⟨hs, hp, fun x hx => by simp [less3] at hx, by simp [less3, sumN], rfl, fun k => by simp [less3, cntK]; omega⟩
  | x :: r, hs, hp => by
    have hs' := List.pairwise_cons.1 hs
    have px := hp x (List.mem_cons_self ..)
    obtain ⟨i1, i2, i3, i4, i5, i6⟩ := zDj h0 h1 hM hs'.2 (fun y hy => hp y (List.mem_cons_of_mem _ hy))
    have e : w64 (x.2.1 - m) = x.2.1 - m := by
      rw [w64_id] <;> omega
    unfold less3
    rw [e]
    by_cases hc : x.2.1 > m
    · have hg : x.2.1 ≥ m := by omega
      simp only [hc, decide_true, cond_true, List.countP_cons, hg, gt_iff_lt.1 hc, if_true]
      refine ⟨List.pairwise_cons.2 ⟨fun y hy => ?_, i1⟩, fun y hy => ?_, fun y hy => ?_, ?_, ?_, fun k => ?_⟩
      · obtain ⟨z, hz, hzy⟩ := i3 y hy
        have := hs'.1 z hz
        show x.1 < y.1; omega
      · rcases List.mem_cons.1 hy with rfl | hy
        · exact ⟨px.1, px.2.1, by show 1 ≤ x.2.1 - m; omega, by show x.2.1 - m ≤ M; omega⟩
        · exact i2 y hy
      · rcases List.mem_cons.1 hy with rfl | hy
        · exact ⟨x, List.mem_cons_self .., rfl⟩
        · obtain ⟨z, hz, hzy⟩ := i3 y hy
          exact ⟨z, List.mem_cons_of_mem _ hz, hzy⟩
      · show x.2.1 - m + sumN (less3 m r) + m * (((r.countP fun y => decide (y.2.1 ≥ m)) + 1 : Nat) : Int) ≤ x.2.1 + sumN r
        rw [Int.natCast_add, Int.mul_add]
        omega
      · rw [List.length_cons, i5]
      · have := i6 k
        show (if x.1 = k then x.2.1 - m else 0) + cntK (less3 m r) k ≤ (if x.1 = k then x.2.1 else 0) + cntK r k ∧ (if x.1 = k then x.2.1 else 0) + cntK r k ≤ (if x.1 = k then x.2.1 - m else 0) + cntK (less3 m r) k + m
        by_cases hk : x.1 = k
        · have c0 : cntK r k = 0 := zdy fun y hy => by have := hs'.1 y hy; omega
          have c1 : cntK (less3 m r) k = 0 := zdy fun y hy => by
            obtain ⟨z, hz, hzy⟩ := i3 y hy
            have := hs'.1 z hz; omega
          rw [if_pos hk, if_pos hk, c0, c1]; omega
        · rw [if_neg hk, if_neg hk]; omega
    · have hn : ¬ m < x.2.1 := hc
      simp only [hc, decide_false, cond_false, List.countP_cons, hn, Bool.false_eq_true, if_false]
      refine ⟨i1, i2, fun y hy => ?_, ?_, by omega, fun k => ?_⟩
      · obtain ⟨z, hz, hzy⟩ := i3 y hy
        exact ⟨z, List.mem_cons_of_mem _ hz, hzy⟩
      · show sumN (less3 m r) + m * (((r.countP fun y => decide (y.2.1 ≥ m)) + (if decide (x.2.1 ≥ m) = true then 1 else 0) : Nat) : Int) ≤ x.2.1 + sumN r
        by_cases hg : x.2.1 ≥ m
        · simp only [hg, decide_true, if_true]
          rw [Int.natCast_add, Int.mul_add]
          omega
        · simp only [hg, decide_false, Bool.false_eq_true, if_false, Nat.add_zero]
          omega
      · have := i6 k
        show cntK (less3 m r) k ≤ (if x.1 = k then x.2.1 else 0) + cntK r k ∧ (if x.1 = k then x.2.1 else 0) + cntK r k ≤ cntK (less3 m r) k + m
        by_cases hk : x.1 = k
        · have c0 : cntK r k = 0 := zdy fun y hy => by have := hs'.1 y hy; omega
          have c1 : cntK (less3 m r) k = 0 := zdy fun y hy => by
            obtain ⟨z, hz, hzy⟩ := i3 y hy
            have := hs'.1 z hz; omega
          rw [if_pos hk, c0, c1]; omega
        · rw [if_neg hk]; omega
theorem cut3_ok {l : List Knot} {lost all m : Int} (hs : SA l) (hp : Pos m l) (hm : m ≤ 1000000) (hl : l.length < 13) (h0 : 0 ≤ lost) (ha0 : 0 ≤ all) (ha : all ≤ 2000) (hsum : sumN l + 5 * lost ≤ all) :
    topB (cut3 l lost all).1 (cut3 l lost all).2.1 (cut3 l lost all).2.2.1 = true ∧ (cut3 l lost all).2.2.1 = all ∧ lost ≤ (cut3 l lost all).2.1 ∧
    ∀ k, cntK (cut3 l lost all).1 k ≤ cntK l k ∧ cntK l k + lost ≤ cntK (cut3 l lost all).1 k + (cut3 l lost all).2.1 := by
  have hp1 : Pos 1000000 l := hp.mono hm
  have nn := sumN_nn hp
  by_cases h : l.length ≤ 4
  · have e : cut3 l lost all = (l, lost, all, ()) := by
      have ew : w64 (lost + 0) = lost := by rw [w64_id] <;> omega
      unfold cut3
      rw [zDa h, zrE hp1, ew]
    rw [e]
    exact ⟨topB_mk hs hp h h0 ha0 ha hsum, rfl, Int.le_refl _, fun k => ⟨Int.le_refl _, Int.le_refl _⟩⟩
  · have hsl := zrz kN l
    obtain ⟨a0, a1, a2, a3, a4, r, hr⟩ : ∃ a0 a1 a2 a3 a4 r, isort kN l = a0 :: a1 :: a2 :: a3 :: a4 :: r := by
      match hq : isort kN l with
      | [] | [_] | [_, _] | [_, _, _] | [_, _, _, _] => rw [hq] at hsl; simp at hsl; omega
      | a0 :: a1 :: a2 :: a3 :: a4 :: r => exact ⟨a0, a1, a2, a3, a4, r, rfl⟩
    obtain ⟨f1, f2, f3, f4⟩ := fifth hp hr (by omega)
    obtain ⟨i1, i2, -, i4, i5, i6⟩ := zDj (m := a4.2.1) (by omega) (by have := hp a4 ((zh3 kN l).mem_iff.1 (by rw [hr]; simp)); omega) hm hs hp
    have mul : a4.2.1 * 5 ≤ a4.2.1 * ((l.countP fun y => decide (y.2.1 ≥ a4.2.1) : Nat) : Int) := Int.mul_le_mul_of_nonneg_left (by omega) (by omega)
    have nn2 := sumN_nn i2
    have ew : w64 (lost + a4.2.1) = lost + a4.2.1 := by rw [w64_id] <;> omega
    have e : cut3 l lost all = (less3 a4.2.1 l, lost + a4.2.1, all, ()) := by
      unfold cut3
      rw [f1, ew]
    rw [e]
    refine ⟨topB_mk i1 i2 (by rw [i5]; omega) (by show 0 ≤ lost + a4.2.1; omega) ha0 ha (by show sumN (less3 a4.2.1 l) + 5 * (lost + a4.2.1) ≤ all; omega), rfl, by show lost ≤ lost + a4.2.1; omega, fun k => ?_⟩
    have := i6 k
    show cntK (less3 a4.2.1 l) k ≤ cntK l k ∧ cntK l k + lost ≤ cntK (less3 a4.2.1 l) k + (lost + a4.2.1)
    omega
theorem zDk {pa pb : List Knot} {la aa lb ab : Int} (h : topB pa la aa = true) (h' : topB pb lb ab = true) (ha : aa + ab ≤ 2000) :
    (topJoin pa la aa pb lb ab).2 = true ∧ topB (topJoin pa la aa pb lb ab).1.1 (topJoin pa la aa pb lb ab).1.2.1 (topJoin pa la aa pb lb ab).1.2.2.1 = true ∧ (topJoin pa la aa pb lb ab).1.2.2.1 = aa + ab ∧ la + lb ≤ (topJoin pa la aa pb lb ab).1.2.1 ∧
    ∀ k, cntK (topJoin pa la aa pb lb ab).1.1 k ≤ cntK pa k + cntK pb k ∧ cntK pa k + cntK pb k + (la + lb) ≤ cntK (topJoin pa la aa pb lb ab).1.1 k + (topJoin pa la aa pb lb ab).1.2.1 := by
  obtain ⟨hs, hp, h4, l0, l1, a0, a1⟩ := zmm h
  obtain ⟨hs', hp', h4', l0', l1', a0', a1'⟩ := zmm h'
  have hsum := zDg h
  have hsum' := zDg h'
  have ew : w64 (aa + ab) = aa + ab := by rw [w64_id] <;> omega
  have ew2 : w64 (la + lb) = la + lb := by rw [w64_id] <;> omega
  obtain ⟨i1, i2, i3⟩ := zmj (m := 2000) (by omega) (b := pb) (a := pa) (by omega) hs hp hp'
  have is := zDi (m := 2000) (by omega) (b := pb) (a := pa) (by omega) hs hp hp'
  have il := zru pb pa
  have e : topJoin pa la aa pb lb ab = (cut3 (putAll pa pb) (la + lb) (aa + ab), true) := by
    unfold topJoin
    simp only [h, h', ew, ew2, ha, decide_true, Bool.and_self, cond_true]
  rw [e]
  obtain ⟨c1, c2, c3, c4⟩ := cut3_ok i1 i2 (by omega) (by omega) (by omega : 0 ≤ la + lb) (by omega) ha (by omega)
  exact ⟨rfl, c1, c2, c3, fun k => by have := c4 k; rw [i3 k] at this; exact this⟩
end Go.Proofs.YtdgdoeknpakmlaaGreat.Den
namespace Go.Proofs.YtdgdoeknpakmlaaGreat.Den
open Go
def spanG : Nat → Int → Int → Int × Int
  | 0, l, h => (l - 64, h - 64)
  | n + 1, l, h => if l < 64 then spanG n (2 * l) (2 * h + 1) else (l - 64, h - 64)
def span (a : Int) : Int × Int := spanG 63 a a
theorem or_one (x : Nat) (h : x < 4611686018427387904) : (BitVec.ofInt 64 (2 * (x : Int)) ||| BitVec.ofInt 64 1).toNat = 2 * x + 1 := by
  rw [BitVec.toNat_or, BitVec.toNat_ofInt, BitVec.toNat_ofInt]
  have e1 : ((2 * (x : Int)) % ((2 ^ 64 : Nat) : Int)).toNat = x <<< 1 := by
    rw [Nat.shiftLeft_eq]; omega
  have e2 : ((1 : Int) % ((2 ^ 64 : Nat) : Int)).toNat = 1 := by decide
  rw [e1, e2, ← Nat.shiftLeft_add_eq_or_of_lt (by omega) x, Nat.shiftLeft_eq]
  omega
theorem shl_one (x : Int) (h0 : 0 ≤ x) (h : x < 4611686018427387904) : w64 (x * 2 ^ min (Int.toNat 1) (IntKind.bits IntKind.i64)) = 2 * x := by
  have e : (2 : Int) ^ min (Int.toNat 1) (IntKind.bits IntKind.i64) = 2 := by decide
  rw [e, w64_id] <;> omega
theorem zBz (f : Nat) (ks : List Knot) (hl : ks.length < 4294967296) (hg : GoodK ks) : ∀ (d i : Nat) (a : List Int) (fuel : Nat), i + d = ks.length → a.length = 128 → d < fuel →
    iter (zjE f) fuel ((i : Int), (ks.length : Int), ks, a) = some (numsGo (ks.drop i) a, ())
  | 0, i, a, fuel + 1, hi, ha, hf => by
    rw [iter]
    show zfI f _ _ = _
    unfold zfI
    have h1 : ¬ ((i : Int) < (ks.length : Int)) := by omega
    have h2 : ks.drop i = [] := List.drop_eq_nil_of_le (by omega)
    simp [h1, h2, numsGo]
  | d + 1, i, a, fuel + 1, hi, ha, hf => by
    rw [iter]
    show zfI f _ _ = _
    unfold zfI
    have h1 : (i : Int) < (ks.length : Int) := by omega
    have h2 : (0 : Int) ≤ (i : Int) := by omega
    have h3 : w64 ((i : Int) + 1) = (i : Int) + 1 := by rw [w64_id] <;> omega
    have ih : ∀ a : List Int, a.length = 128 → iter (zjE f) fuel ((i : Int) + 1, (ks.length : Int), ks, a) = some (numsGo (ks.drop (i + 1)) a, ()) := fun a ha => by
      exact_mod_cast zBz f ks hl hg d (i + 1) a fuel (by omega) ha (by omega)
    have hk := hg (ks.getD i (0, 0, ())) (by
      rw [List.getD_eq_getElem?_getD, List.getElem?_eq_getElem (by omega)]; exact List.getElem_mem _)
    rw [zdw (0, 0, ()) (show i < ks.length by omega)]
    simp only [h1, h2, h3, zz_eq, Int.toNat_natCast, decide_true, cond_true]
    obtain ⟨k, hk'⟩ : ∃ k : Knot, ks.getD i (0, 0, ()) = k := ⟨_, rfl⟩
    simp only [hk'] at hk ⊢
    have c1 : 0 ≤ k.1 := by omega
    have c2 : k.1 < ((128 : Nat) : Int) := by omega
    have c3 : k.1.toNat < a.length := by omega
    simp only [c1, c2, c3, decide_true, cond_true]
    rw [ih _ (by simpa using ha)]
    rfl
theorem zDl (f : Nat) (ks : List Knot) (a : List Int) (hl : ks.length < 4294967296) (hg : GoodK ks) (ha : a.length = 128) (hf : ks.length < f) : zcK f (a, (ks, ()), ()) = some (numsGo ks a, ()) := by
  unfold zcK znT
  have := zBz f ks hl hg ks.length 0 a f (by omega) ha hf
  simpa [zz_eq] using this
def dq : Nat → Nat → List Int
  | _, 0 => []
  | n, k + 1 => (n : Int) :: dq (n - 1) k
theorem dq_len : ∀ {n k : Nat}, (dq n k).length = k
  | _, 0 => rfl
  | n, k + 1 => by simp [dq, dq_len]
theorem dq_snoc : ∀ {n k : Nat}, dq n (k + 1) = dq n k ++ [((n - k : Nat) : Int)]
  | n, 0 => by simp [dq]
  | n, k + 1 => by
    rw [dq, dq_snoc, dq, List.cons_append]
    have : n - 1 - k = n - (k + 1) := by omega
    rw [this]
theorem shl_or (x : Int) (h0 : 0 ≤ x) (h : x < 4611686018427387904) : w64 (zz (BitVec.toNat (BitVec.ofInt (IntKind.bits IntKind.i64) (w64 (x * 2 ^ min (Int.toNat 1) (IntKind.bits IntKind.i64))) ||| BitVec.ofInt (IntKind.bits IntKind.i64) 1))) = 2 * x + 1 := by
  rw [shl_one x h0 h]
  obtain ⟨y, rfl⟩ : ∃ y : Nat, x = y := ⟨x.toNat, by omega⟩
  show w64 (zz (BitVec.toNat (BitVec.ofInt 64 (2 * (y : Int)) ||| BitVec.ofInt 64 1))) = _
  rw [or_one y (by omega), zz_eq, w64_id] <;> omega
theorem and_one (x : Int) (h0 : 0 ≤ x) (h : x < 4611686018427387904) : w64 (zz (BitVec.toNat (BitVec.ofInt (IntKind.bits IntKind.i64) x &&& BitVec.ofInt (IntKind.bits IntKind.i64) 1))) = x % 2 := by
  show w64 (zz (BitVec.toNat (BitVec.ofInt 64 x &&& BitVec.ofInt 64 1))) = _
  obtain ⟨y, rfl⟩ : ∃ y : Nat, x = y := ⟨x.toNat, by omega⟩
  rw [BitVec.toNat_and, BitVec.toNat_ofInt, BitVec.toNat_ofInt]
  have e1 : ((y : Int) % ((2 ^ 64 : Nat) : Int)).toNat = y := by omega
  have e2 : ((1 : Int) % ((2 ^ 64 : Nat) : Int)).toNat = 1 := by decide
  rw [e1, e2, Nat.and_one_is_mod, zz_eq, w64_id] <;> omega
theorem shr_one (x : Int) (h0 : 0 ≤ x) : Int.fdiv x (2 ^ min (Int.toNat 1) (IntKind.bits IntKind.i64)) = x / 2 := by
  have e : (2 : Int) ^ min (Int.toNat 1) (IntKind.bits IntKind.i64) = 2 := by decide
  rw [e, Int.fdiv_eq_ediv_of_nonneg _ (by omega)]
theorem zBA (f : Nat) (all : Int) : ∀ (n : Nat) (a : List Int) (fuel : Nat), n ≤ 63 → a.length = 128 → n < fuel →
    iter (zbt f) fuel (all, a, dq n (n - n / 2)) = some (sqGo all n a, ())
  | 0, a, fuel + 1, hn, ha, hf => by
    rw [iter]
    show zfJ f _ _ = _
    unfold zfJ
    simp [sqGo, dq, zz_eq]
  | n + 1, a, fuel + 1, hn, ha, hf => by
    rw [iter]
    show zfJ f _ _ = _
    obtain ⟨k, hk⟩ : ∃ k, n + 1 - (n + 1) / 2 = k + 1 := ⟨n - (n + 1) / 2, by omega⟩
    have ih : ∀ a : List Int, a.length = 128 → iter (zbt f) fuel (all, a, dq n (n - n / 2)) = some (sqGo all n a, ()) := fun a ha =>
      zBA f all n a fuel (by omega) ha (by omega)
    rw [hk, dq, Nat.add_sub_cancel]
    unfold zfJ
    have g0 : (((n + 1 : Nat) : Int) :: dq n k).getD (Int.toNat 0) 0 = ((n + 1 : Nat) : Int) := rfl
    have g1 : List.take (k + 1 - Int.toNat 1) (List.drop (Int.toNat 1) (((n + 1 : Nat) : Int) :: dq n k)) = dq n k := by
      have : Int.toNat 1 = 1 := rfl
      rw [this, List.drop_succ_cons, List.drop_zero, Nat.add_sub_cancel]
      exact List.take_of_length_le (by rw [dq_len]; exact Nat.le_refl _)
    have hlen : (((n + 1 : Nat) : Int) :: dq n k).length = k + 1 := by simp [dq_len]
    have h1 : w64 (((n + 1 : Nat) : Int) * 2 ^ min (Int.toNat 1) (IntKind.bits IntKind.i64)) = ((2 * (n + 1) : Nat) : Int) := by
      rw [shl_one _ (by omega) (by omega)]; omega
    have h2 : w64 (zz (BitVec.toNat (BitVec.ofInt (IntKind.bits IntKind.i64) ((2 * (n + 1) : Nat) : Int) ||| BitVec.ofInt (IntKind.bits IntKind.i64) 1))) = ((2 * (n + 1) + 1 : Nat) : Int) := by
      have := shl_or ((n + 1 : Nat) : Int) (by omega) (by omega)
      rw [h1] at this
      rw [this]; omega
    have h3 := and_one ((n + 1 : Nat) : Int) (by omega) (by omega)
    have h4 := shr_one ((n + 1 : Nat) : Int) (by omega)
    simp only [zz_eq] at h2 h3
    have l0 : (0 : Int) < ((k + 1 : Nat) : Int) := by omega
    have l0' : (1 : Int) ≤ ((k + 1 : Nat) : Int) := by omega
    have l1 : 2 * (n + 1) < 128 := by omega
    have l2 : 2 * (n + 1) + 1 < 128 := by omega
    have l3 : n + 1 < 128 := by omega
    have l4 : ((2 * (n + 1) : Nat) : Int) < ((128 : Nat) : Int) := by omega
    have l5 : ((2 * (n + 1) + 1 : Nat) : Int) < ((128 : Nat) : Int) := by omega
    have l6 : ((n + 1 : Nat) : Int) < ((128 : Nat) : Int) := by omega
    have l7 : (dq n k).length + 1 < LIM := by rw [dq_len]; simp only [LIM]; omega
    have z0 : Int.toNat 0 < k + 1 := by simp
    simp only [g0, g1, hlen, h1, h2, h3, h4, zz_eq, l0, l0', gt_iff_lt, decide_true, cond_true, z0, Int.natCast_nonneg, Int.toNat_natCast, List.length_set, ha, l1, l2, l3, l4, l5, l6, l7, List.length_singleton]
    -- behind the two tests, the queue
    have q : ∀ a' : List Int, a'.length = 128 → (cond (((n + 1 : Nat) : Int) % 2 == 0) (iter (zbt f) fuel (all, a', dq n k ++ [((n + 1 : Nat) : Int) / 2])) (iter (zbt f) fuel (all, a', dq n k))) = some (sqGo all n a', ()) := by
      intro a' ha'
      by_cases hp : ((n + 1 : Nat) : Int) % 2 = 0
      · have e : dq n k ++ [((n + 1 : Nat) : Int) / 2] = dq n (n - n / 2) := by
          have e1 : n - n / 2 = k + 1 := by omega
          have e2 : ((n + 1 : Nat) : Int) / 2 = ((n - k : Nat) : Int) := by omega
          rw [e1, dq_snoc, e2]
        rw [hp, e]
        exact ih a' ha'
      · have e : k = n - n / 2 := by omega
        have hb : (((n + 1 : Nat) : Int) % 2 == 0) = false := by simpa using hp
        rw [hb, cond_false, e]
        exact ih a' ha'
    unfold sqGo sq1
    by_cases c1 : 0 < w64 (a.getD (2 * (n + 1)) 0 + a.getD (2 * (n + 1) + 1) 0)
    · by_cases c2 : w64 (w64 (a.getD (2 * (n + 1)) 0 + a.getD (2 * (n + 1) + 1) 0) + a.getD (n + 1) 0) ≤ w64 (all.tdiv 8)
      · rw [if_pos ⟨c1, c2⟩]
        simp only [c1, c2, decide_true, cond_true]
        exact q _ (by simpa using ha)
      · rw [if_neg (fun h => c2 h.2)]
        simp only [c1, c2, decide_true, decide_false, cond_true, cond_false]
        exact q _ ha
    · rw [if_neg (fun h => c1 h.1)]
      simp only [c1, decide_false, cond_false]
      exact q _ ha
theorem zBB (f : Nat) (all : Int) (a : List Int) : ∀ (d : Nat) (q : List Int) (fuel : Nat), q.length + d ≤ 64 → d < fuel →
    iter (znV f) fuel (((31 + d : Nat) : Int), all, a, q) = iter (zbt f) f (all, a, q ++ dq (31 + d) d)
  | 0, q, fuel + 1, hq, hf => by
    rw [iter]
    show zcO f _ _ _ = _
    unfold zcO
    simp [dq]
  | d + 1, q, fuel + 1, hq, hf => by
    rw [iter]
    show zcO f _ _ _ = _
    unfold zcO
    have h1 : ((31 + (d + 1) : Nat) : Int) ≥ 32 := by omega
    have h2 : w64 (((31 + (d + 1) : Nat) : Int) - 1) = ((31 + d : Nat) : Int) := by rw [w64_id] <;> omega
    have h3 : q.length + 1 < LIM := by simp only [LIM]; omega
    simp only [h1, h2, h3, decide_true, cond_true, List.length_singleton]
    rw [zBB f all a d _ fuel (by simp; omega) (by omega), dq, show 31 + (d + 1) - 1 = 31 + d from by omega]
    simp
theorem zOW (f : Nat) (a : List Int) (all : Int) (ha : a.length = 128) (hf : 64 < f) : zfK f (a, (all, ()), ()) = some (sqGo all 63 a, ()) := by
  unfold zfK znW
  have h1 := zBB f all a 32 [] f (by simp) (by omega)
  have h2 := zBA f all 63 a f (by omega) ha (by omega)
  have e : (List.replicate (Int.toNat 0) (0 : Int)) = [] := rfl
  simp only [e]
  exact h1.trans h2
theorem zBC (f : Nat) (a : List Int) (all u : Int) (ha : a.length = 128) : ∀ (d i : Nat) (out : List Knot) (fuel : Nat), i + d = 128 → out.length ≤ i → d < fuel →
    iter (zfQ f) fuel ((i : Int), a, all, out, u) = some ((out ++ listGo i (a.drop i), all, ()), ())
  | 0, i, out, fuel + 1, hi, ho, hf => by
    rw [iter]
    show zfP f _ _ = _
    unfold zfP
    have h1 : ¬ ((i : Int) < 128) := by omega
    have h2 : a.drop i = [] := List.drop_eq_nil_of_le (by omega)
    simp [h1, h2, listGo]
  | d + 1, i, out, fuel + 1, hi, ho, hf => by
    rw [iter]
    show zfP f _ _ = _
    unfold zfP
    have h1 : (i : Int) < 128 := by omega
    have h1' : (i : Int) < ((128 : Nat) : Int) := by omega
    have h2 : (0 : Int) ≤ (i : Int) := by omega
    have h3 : w64 ((i : Int) + 1) = (i : Int) + 1 := by rw [w64_id] <;> omega
    have ih : ∀ out : List Knot, out.length ≤ i + 1 → iter (zfQ f) fuel ((i : Int) + 1, a, all, out, u) = some ((out ++ listGo (i + 1) (a.drop (i + 1)), all, ()), ()) := fun out ho => by
      exact_mod_cast zBC f a all u ha d (i + 1) out fuel (by omega) ho (by omega)
    have h4 : out.length + 1 < LIM := by simp only [LIM]; omega
    rw [zdw 0 (show i < a.length by omega)]
    simp only [h1, h1', h2, h3, zz_eq, ha, Int.toNat_natCast, decide_true, cond_true, listGo, List.length_singleton, h4]
    by_cases c : 0 < a.getD i 0
    · simp only [c, gt_iff_lt, decide_true, cond_true, if_true]
      rw [ih _ (by simp; omega)]
      simp
    · simp only [c, gt_iff_lt, decide_false, cond_false, if_false]
      exact ih _ (by omega)
theorem zOX (f : Nat) (ka kb : List Knot) (alla allb : Int) (hla : ka.length < 2147483648) (hlb : kb.length < 2147483648) (ga : GoodK ka) (gb : GoodK kb) (hfa : ka.length < f) (hfb : kb.length < f) (hf : 128 < f) :
    zjI f ((ka, alla, ()), (kb, allb, ()), ()) = some ((sumK ka kb (w64 (alla + allb)), w64 (alla + allb), ()), ()) := by
  show zjH f (iter (zfQ f) f) ka alla kb allb = _
  unfold zjH sumK
  have hz : (List.replicate 128 (0 : Int)).length = 128 := List.length_replicate ..
  have h1 : (numsGo ka zeros).length = 128 := by rw [zmd]; exact hz
  have h2 : (numsGo kb (numsGo ka zeros)).length = 128 := by rw [zmd]; exact h1
  have h3 : (sqGo (w64 (alla + allb)) 63 (numsGo kb (numsGo ka zeros))).length = 128 := by rw [zrs]; exact h2
  have e1 := zDl f ka zeros (by omega) ga hz hfa
  have e2 := zDl f kb (numsGo ka zeros) (by omega) gb h1 hfb
  have e3 := zOW f (numsGo kb (numsGo ka zeros)) (w64 (alla + allb)) h2 (by omega)
  have e4 := zBC f (sqGo (w64 (alla + allb)) 63 (numsGo kb (numsGo ka zeros))) (w64 (alla + allb)) 0 h3 128 0 [] f (by omega) (by simp) hf
  have e0 : List.replicate 128 (0 : Int) = zeros := rfl
  rw [e0, e1, Option.bind_some, e2, Option.bind_some, e3, Option.bind_some]
  have e5 : Nat.beq ((sqGo (w64 (alla + allb)) 63 (numsGo kb (numsGo ka zeros))).length * Kd.sz (Kd.int IntKind.i64)) 128 = true := by
    rw [h3]; rfl
  simp only [e5, cond_true]
  rw [List.nil_append, List.drop_zero] at e4
  exact e4
theorem zOY (f : Nat) (ka kb : List Knot) (alla allb : Int) (hla : ka.length < 2147483648) (hlb : kb.length < 2147483648) (hfa : ka.length < f) (hfb : kb.length < f) (hf : 128 < f) :
    zcW f ((ka, alla, ()), (kb, allb, ()), ()) = some (if joinB ka alla kb allb = true then ((sumK ka kb (alla + allb), alla + allb, ()), (true, ()), ()) else noRank) := by
  show zom f ka alla kb allb = _
  unfold zom joinB noRank
  simp only [zrk f ka alla (by omega) hfa, zrk f kb allb (by omega) hfb, Option.bind_some]
  by_cases c : okB ka alla = true
  · by_cases c2 : okB kb allb = true
    · have b1 := okB_all c
      have b2 := okB_all c2
      have e : w64 (alla + allb) = alla + allb := by rw [w64_id] <;> omega
      by_cases c3 : alla + allb ≤ 2000
      · have c4 : ¬ alla + allb > 2000 := by omega
        simp only [c, c2, c3, e, c4, zOX f ka kb alla allb hla hlb (zh0 c) (zh0 c2) hfa hfb hf, Bool.not_true, cond_false, decide_false, Option.bind_some, decide_true, Bool.and_self, if_true]
      · have c4 : alla + allb > 2000 := by omega
        simp [c, c2, c3, e, c4]
    · simp [c, c2]
  · simp [c]
end Go.Proofs.YtdgdoeknpakmlaaGreat.Den
namespace Go.Proofs.YtdgdoeknpakmlaaGreat.Den
open Go
def wsum (p : Nat → Bool) : Nat → List Int → Int
  | _, [] => 0
  | i, x :: r => (if p i = true then x else 0) + wsum p (i + 1) r
def ksum (p : Nat → Bool) : List Knot → Int
  | [] => 0
  | k :: r => (if p k.1.toNat = true then k.2.1 else 0) + ksum p r
abbrev yes : Nat → Bool := fun _ => true
theorem zh4 (p : Nat → Bool) (x : Int) : ∀ {l : List Int} {i j : Nat}, j < l.length → wsum p i (l.set j x) = wsum p i l + (if p (i + j) = true then x - l.getD j 0 else 0)
  | [], i, j, h => by simp at h
  | y :: l, i, 0, h => by
    simp only [List.set_cons_zero, wsum, Nat.add_zero, List.getD_cons_zero]
    split <;> omega
  | y :: l, i, j + 1, h => by
    simp only [List.set_cons_succ, wsum, List.getD_cons_succ]
    rw [zh4 p x (by simpa using h), show i + 1 + j = i + (j + 1) from by omega]
    omega
theorem zbP {l : List Int} {i j : Nat} {x : Int} (h : i < l.length) : (l.set i x).getD j 0 = if i = j then x else l.getD j 0 := by
  simp only [List.getD_eq_getElem?_getD]
  by_cases e : i = j
  · subst e; rw [List.getElem?_set_self h, if_pos rfl]; rfl
  · rw [List.getElem?_set_ne e, if_neg e]
theorem zrF {p : Nat → Bool} : ∀ {l : List Int} {i : Nat}, (∀ j, 0 ≤ l.getD j 0) → 0 ≤ wsum p i l
  | [], i, h => Int.le_refl _
  | x :: l, i, h => by
    have h0 : 0 ≤ x := h 0
    have := zrF (p := p) (l := l) (i := i + 1) fun j => h (j + 1)
    simp only [wsum]; split <;> omega
theorem zmo : ∀ {l : List Int} {i j : Nat}, (∀ j, 0 ≤ l.getD j 0) → l.getD j 0 ≤ wsum yes i l
  | [], i, j, h => by simp [wsum]
  | x :: l, i, 0, h => by
    have := zrF (p := yes) (l := l) (i := i + 1) fun j => h (j + 1)
    simp only [wsum, List.getD_cons_zero, if_true]; omega
  | x :: l, i, j + 1, h => by
    have h0 : 0 ≤ x := h 0
    have := zmo (l := l) (i := i + 1) (j := j) fun j => h (j + 1)
    simp only [wsum, List.getD_cons_succ, if_true]; omega
theorem zDm : ∀ {l : List Int} {i j k : Nat}, j < k → (∀ j, 0 ≤ l.getD j 0) → l.getD j 0 + l.getD k 0 ≤ wsum yes i l
  | [], i, j, k, hjk, h => by simp [wsum]
  | x :: l, i, 0, k + 1, hjk, h => by
    have := zmo (l := l) (i := i + 1) (j := k) fun j => h (j + 1)
    simp only [wsum, List.getD_cons_zero, List.getD_cons_succ, if_true]; omega
  | x :: l, i, j + 1, k + 1, hjk, h => by
    have h0 : 0 ≤ x := h 0
    have := zDm (l := l) (i := i + 1) (j := j) (k := k) (by omega) fun j => h (j + 1)
    simp only [wsum, List.getD_cons_succ, if_true]; omega
theorem zDn : ∀ {l : List Int} {i j : Nat}, wsum (fun k => k == i + j) i l = l.getD j 0
  | [], i, j => by simp [wsum]
  | x :: l, i, 0 => by
    have : ∀ {l : List Int} {k : Nat}, i < k → wsum (fun m => m == i + 0) k l = 0 := by
      intro l
      induction l with
      | nil => intro k _; rfl
      | cons y l ih =>
        intro k hk
        have e : (k == i + 0) = false := by simp; omega
        show (if (k == i + 0) = true then y else 0) + wsum (fun m => m == i + 0) (k + 1) l = 0
        rw [e, ih (by omega)]; rfl
    simp only [wsum, List.getD_cons_zero]
    rw [this (by omega)]
    simp
  | x :: l, i, j + 1 => by
    simp only [wsum, List.getD_cons_succ]
    have e : ∀ k, (k == i + (j + 1)) = (k == i + 1 + j) := fun k => by rw [show i + (j + 1) = i + 1 + j from by omega]
    have : (i == i + (j + 1)) = false := by simp
    simp only [this]
    rw [show (fun k => k == i + (j + 1)) = fun k => k == i + 1 + j from funext e, zDn]
    simp
structure NumsP (a : List Int) (top : Int) : Prop where
  len : a.length = 128
  nn : ∀ j, 0 ≤ a.getD j 0
  top : wsum yes 0 a ≤ top
theorem zDo (p : Nat → Bool) : wsum p 0 zeros = 0 := by
  have : ∀ (n i : Nat), wsum p i (List.replicate n (0 : Int)) = 0 := by
    intro n
    induction n with
    | zero => intro i; rfl
    | succ n ih => intro i; simp [List.replicate_succ, wsum, ih]
  exact this 128 0
theorem zeros_p : NumsP zeros 0 where
  len := List.length_replicate ..
  nn j := by
    simp only [zeros, List.getD_eq_getElem?_getD, List.getElem?_replicate]
    split <;> simp
  top := by rw [zDo]; exact Int.le_refl _
theorem zrG : ∀ {ks : List Knot} {a : List Int} {top : Int}, GoodK ks → NumsP a top → 0 ≤ top → top + ksum yes ks ≤ 1000000000000 →
    NumsP (numsGo ks a) (top + ksum yes ks) ∧ ∀ p, wsum p 0 (numsGo ks a) = wsum p 0 a + ksum p ks
  | [], a, top, hg, ha, h0, ht => ⟨by simpa [numsGo, ksum] using ha, fun p => by simp [numsGo, ksum]⟩
  | k :: r, a, top, hg, ha, h0, ht => by
    have hk := hg k (by simp)
    have hkr : ∀ {r : List Knot}, GoodK r → 0 ≤ ksum yes r := by
      intro r
      induction r with
      | nil => intro _; exact Int.le_refl _
      | cons x r ih => intro hg; have := ih fun y hy => hg y (by simp [hy]); have := hg x (by simp); simp only [ksum, if_true]; omega
    have hr := hkr (r := r) fun y hy => hg y (by simp [hy])
    simp only [ksum, if_true] at ht
    have hle := zmo (l := a) (i := 0) (j := k.1.toNat) ha.nn
    have h1 := ha.nn k.1.toNat
    have h2 := ha.top
    have hlen := ha.len
    have e : w64 (a.getD k.1.toNat 0 + k.2.1) = a.getD k.1.toNat 0 + k.2.1 := by rw [w64_id] <;> omega
    have hs : ∀ p, wsum p 0 (a.set k.1.toNat (a.getD k.1.toNat 0 + k.2.1)) = wsum p 0 a + (if p k.1.toNat = true then k.2.1 else 0) := fun p => by
      rw [zh4 p _ (by omega), Nat.zero_add]; split <;> omega
    have ha' : NumsP (a.set k.1.toNat (a.getD k.1.toNat 0 + k.2.1)) (top + k.2.1) := {
      len := by simpa using hlen
      nn := fun j => by
        rw [zbP (by omega)]
        split
        · omega
        · exact ha.nn j
      top := by rw [hs]; simp only [if_true]; omega }
    have ih := zrG (ks := r) (a := a.set k.1.toNat (a.getD k.1.toNat 0 + k.2.1)) (top := top + k.2.1) (fun y hy => hg y (by simp [hy])) ha' (by omega) (by omega)
    simp only [numsGo, ksum, e, if_true]
    refine ⟨?_, fun p => by rw [ih.2 p, hs p]; omega⟩
    rw [← Int.add_assoc]; exact ih.1
theorem sq1_sum {a : List Int} {top all : Int} {n : Nat} (ha : NumsP a top) (ht : top ≤ 1000000000000) (h1 : 1 ≤ n) (h2 : n ≤ 63) :
    NumsP (sq1 all n a) top ∧ (∃ l h : Int, 0 ≤ l ∧ 0 ≤ h ∧ ∀ p, wsum p 0 (sq1 all n a) = wsum p 0 a + (if p n = true then l + h else 0) - (if p (2 * n) = true then l else 0) - (if p (2 * n + 1) = true then h else 0)) ∧
      ((∀ j, 1 ≤ j → j < 64 → a.getD j 0 ≤ w64 (all.tdiv 8)) → 0 ≤ w64 (all.tdiv 8) → ∀ j, 1 ≤ j → j < 64 → (sq1 all n a).getD j 0 ≤ w64 (all.tdiv 8)) := by
  have hlen := ha.len
  have hl := ha.nn (2 * n)
  have hh := ha.nn (2 * n + 1)
  have hn := ha.nn n
  have htop := ha.top
  have b1 := zDm (l := a) (i := 0) (j := 2 * n) (k := 2 * n + 1) (by omega) ha.nn
  have b2 := zmo (l := a) (i := 0) (j := n) ha.nn
  have e1 : w64 (a.getD (2 * n) 0 + a.getD (2 * n + 1) 0) = a.getD (2 * n) 0 + a.getD (2 * n + 1) 0 := by rw [w64_id] <;> omega
  have e2 : w64 (a.getD (2 * n) 0 + a.getD (2 * n + 1) 0 + a.getD n 0) = a.getD (2 * n) 0 + a.getD (2 * n + 1) 0 + a.getD n 0 := by rw [w64_id] <;> omega
  have e3 : w64 (a.getD n 0 + (a.getD (2 * n) 0 + a.getD (2 * n + 1) 0)) = a.getD n 0 + (a.getD (2 * n) 0 + a.getD (2 * n + 1) 0) := by rw [w64_id] <;> omega
  unfold sq1
  rw [e1, e2, e3]
  split
  · rename_i hc
    have g1 : ∀ j, (((a.set n (a.getD n 0 + (a.getD (2 * n) 0 + a.getD (2 * n + 1) 0))).set (2 * n) 0).set (2 * n + 1) 0).getD j 0 = if 2 * n + 1 = j then 0 else if 2 * n = j then 0 else if n = j then a.getD n 0 + (a.getD (2 * n) 0 + a.getD (2 * n + 1) 0) else a.getD j 0 := fun j => by
      rw [zbP (by first | omega | (simp only [List.length_set]; omega)), zbP (by first | omega | (simp only [List.length_set]; omega)), zbP (by omega)]
    have hs : ∀ p, wsum p 0 (((a.set n (a.getD n 0 + (a.getD (2 * n) 0 + a.getD (2 * n + 1) 0))).set (2 * n) 0).set (2 * n + 1) 0) =
        wsum p 0 a + (if p n = true then a.getD (2 * n) 0 + a.getD (2 * n + 1) 0 else 0) - (if p (2 * n) = true then a.getD (2 * n) 0 else 0) - (if p (2 * n + 1) = true then a.getD (2 * n + 1) 0 else 0) := by
      intro p
      rw [zh4 p 0 (by first | omega | (simp only [List.length_set]; omega)), zh4 p 0 (by first | omega | (simp only [List.length_set]; omega)), zh4 p _ (by omega), zbP (by first | omega | (simp only [List.length_set]; omega)), zbP (by first | omega | (simp only [List.length_set]; omega)), zbP (by first | omega | (simp only [List.length_set]; omega))]
      rw [if_neg (show ¬ 2 * n = 2 * n + 1 by omega), if_neg (show ¬ n = 2 * n + 1 by omega), if_neg (show ¬ n = 2 * n by omega)]
      simp only [Nat.zero_add]
      split <;> split <;> split <;> omega
    refine ⟨⟨by simpa using hlen, fun j => ?_, ?_⟩, ⟨_, _, hl, hh, hs⟩, fun hb h0 j hj1 hj2 => ?_⟩
    · rw [g1]; repeat' split
      all_goals first | omega | exact ha.nn j
    · rw [hs]; simp only [if_true]; omega
    · rw [g1]; repeat' split
      all_goals first | omega | exact hb j hj1 hj2
  · exact ⟨ha, ⟨0, 0, Int.le_refl _, Int.le_refl _, fun p => by simp⟩, fun hb _ => hb⟩
theorem zDp {all top : Int} (ht : top ≤ 1000000000000) : ∀ {n : Nat} {a : List Int}, n ≤ 63 → NumsP a top → NumsP (sqGo all n a) top ∧
      (∀ p : Nat → Bool, (∀ m, 1 ≤ m → m ≤ 63 → p m = true → p (2 * m) = true ∧ p (2 * m + 1) = true) → wsum p 0 (sqGo all n a) ≤ wsum p 0 a) ∧
      (∀ p : Nat → Bool, (∀ m, 1 ≤ m → m ≤ 63 → p (2 * m) = true ∨ p (2 * m + 1) = true → p m = true) → wsum p 0 a ≤ wsum p 0 (sqGo all n a)) ∧
      ((∀ j, 1 ≤ j → j < 64 → a.getD j 0 ≤ w64 (all.tdiv 8)) → 0 ≤ w64 (all.tdiv 8) → ∀ j, 1 ≤ j → j < 64 → (sqGo all n a).getD j 0 ≤ w64 (all.tdiv 8))
  | 0, a, hn, ha => ⟨ha, fun p _ => Int.le_refl _, fun p _ => Int.le_refl _, fun hb _ => hb⟩
  | n + 1, a, hn, ha => by
    obtain ⟨h1, ⟨l, h, hl, hh, hs⟩, h3⟩ := sq1_sum (all := all) (n := n + 1) ha ht (by omega) (by omega)
    obtain ⟨i1, i2, i3, i4⟩ := zDp ht (n := n) (by omega) h1
    refine ⟨i1, fun p hp => Int.le_trans (i2 p hp) ?_, fun p hp => Int.le_trans ?_ (i3 p hp), fun hb h0 => i4 (h3 hb h0) h0⟩
    · rw [hs p]
      have := hp (n + 1) (by omega) (by omega)
      by_cases c : p (n + 1) = true
      · obtain ⟨c1, c2⟩ := this c
        simp only [c, c1, c2, if_true]; omega
      · rw [if_neg c]
        split <;> split <;> omega
    · rw [hs p]
      have := hp (n + 1) (by omega) (by omega)
      by_cases c : p (n + 1) = true
      · simp only [c, if_true]
        split <;> split <;> omega
      · have c1 : ¬ p (2 * (n + 1)) = true := fun h => c (this (.inl h))
        have c2 : ¬ p (2 * (n + 1) + 1) = true := fun h => c (this (.inr h))
        simp only [c, c1, c2]; simp
theorem zDq {p : Nat → Bool} : ∀ {l : List Int} {i : Nat}, (∀ j, 0 ≤ l.getD j 0) → ksum p (listGo i l) = wsum p i l
  | [], i, h => rfl
  | x :: l, i, h => by
    have h0 : 0 ≤ x := h 0
    have ih := zDq (p := p) (l := l) (i := i + 1) fun j => h (j + 1)
    unfold listGo
    split
    · simp only [ksum, wsum, ih, Int.toNat_natCast]
    · have : x = 0 := by omega
      subst this
      simp [wsum, ih]
theorem ok_list {all : Int} (hall : all ≤ 2000) : ∀ {l : List Int} {i : Nat} {before sum : Int}, before < i → 1 ≤ i → i + l.length ≤ 128 → (∀ j, 0 ≤ l.getD j 0) → (∀ j, i + j < 64 → l.getD j 0 ≤ w64 (all.tdiv 8)) →
    0 ≤ sum → sum + wsum yes i l = all → okGo all (listGo i l) before sum = true
  | [], i, before, sum, h1, h2, h3, h4, h5, h6, h7 => by
    simp only [wsum] at h7
    simp [listGo, okGo]; omega
  | x :: l, i, before, sum, h1, h2, h3, h4, h5, h6, h7 => by
    have hx : 0 ≤ x := h4 0
    have hw := zrF (p := yes) (l := l) (i := i + 1) fun j => h4 (j + 1)
    simp only [wsum, if_true] at h7
    simp only [List.length_cons] at h3
    have ih := fun (b s : Int) (hb : b < ((i + 1 : Nat) : Int)) (hs : 0 ≤ s) (e : s + wsum yes (i + 1) l = all) => ok_list hall (l := l) (i := i + 1) (before := b) (sum := s) hb (by omega) (by omega) (fun j => h4 (j + 1)) (fun j hj => h5 (j + 1) (by omega)) hs e
    unfold listGo
    split
    · unfold okGo
      have e : w64 (sum + x) = sum + x := by rw [w64_id] <;> omega
      have h50 : i < 64 → x ≤ w64 (all.tdiv 8) := fun h => h5 0 (by omega)
      rw [if_neg (by
        show ¬ ((i : Int) ≤ before ∨ 128 ≤ (i : Int) ∨ x < 1 ∨ 2000 < x ∨ ((i : Int) < 64 ∧ w64 (all.tdiv 8) < x))
        rintro (h | h | h | h | ⟨h, h'⟩)
        · omega
        · omega
        · omega
        · omega
        · have := h50 (by omega); omega), e]
      exact ih _ _ (by show (i : Int) < ((i + 1 : Nat) : Int); omega) (by omega) (by omega)
    · have : x = 0 := by omega
      exact ih _ _ (by omega) h6 (by omega)
theorem w64_div {all : Int} (h0 : 0 ≤ all) (h1 : all ≤ 2000) : w64 (all.tdiv 8) = all / 8 := by
  rw [Int.tdiv_eq_ediv_of_nonneg h0, w64_id] <;> omega
theorem zDr {all : Int} (hall : 0 ≤ all) (hall2 : all ≤ 2000) : ∀ {ks : List Knot} {before sum : Int}, 0 ≤ before → before ≤ 127 → 0 ≤ sum → sum + 2000 * (127 - before) ≤ 1000000 → okGo all ks before sum = true →
    sum + ksum yes ks = all ∧ (∀ j : Nat, (j : Int) ≤ before → ksum (fun k => k == j) ks = 0) ∧ (∀ j : Nat, j < 64 → ksum (fun k => k == j) ks ≤ all / 8) ∧ (ks.length : Int) ≤ 127 - before
  | [], before, sum, h0, h1, h2, h3, h => by
    simp [okGo] at h
    subst h
    refine ⟨by simp [ksum], fun j _ => rfl, fun j _ => ?_, by simp; omega⟩
    show (0 : Int) ≤ _; omega
  | k :: r, before, sum, h0, h1, h2, h3, h => by
    unfold okGo at h
    split at h
    · cases h
    · rename_i c
      have e : w64 (sum + k.2.1) = sum + k.2.1 := by rw [w64_id] <;> omega
      rw [e] at h
      have hd := w64_div hall hall2
      obtain ⟨i1, i2, i3, i4⟩ := zDr hall hall2 (by omega) (by omega) (by omega) (by omega) h
      refine ⟨by simp only [ksum, if_true]; omega, fun j hj => ?_, fun j hj => ?_, by simp; omega⟩
      · have : ¬ (k.1.toNat == j) = true := by simp; omega
        simp only [ksum, this]
        rw [i2 j (by omega)]; simp
      · by_cases cj : k.1.toNat = j
        · have : (k.1.toNat == j) = true := by simp [cj]
          simp only [ksum, this, if_true]
          rw [i2 j (by omega)]
          omega
        · have : ¬ (k.1.toNat == j) = true := by simpa using cj
          simp only [ksum, this]
          have := i3 j hj
          simp; omega
structure InForm (ks : List Knot) (all : Int) : Prop where
  good : GoodK ks
  lo : 0 ≤ all
  hi : all ≤ 2000
  sum : ksum yes ks = all
  part : ∀ j : Nat, j < 64 → ksum (fun k => k == j) ks ≤ all / 8
  len : ks.length ≤ 127
theorem zh5 {ks : List Knot} {all : Int} (h : okB ks all = true) : InForm ks all := by
  have hg := zh0 h
  have ha := okB_all h
  unfold okB at h
  rw [if_neg (by omega)] at h
  obtain ⟨h1, _, h3, h4⟩ := zDr ha.1 ha.2 (Int.le_refl 0) (by omega) (Int.le_refl 0) (by omega) h
  exact ⟨hg, ha.1, ha.2, by omega, h3, by omega⟩
theorem zOZ {ka kb : List Knot} {alla allb : Int} (fa : InForm ka alla) (gb : GoodK kb) (sb : ksum yes kb = allb) (b0 : 0 ≤ allb) (pb : ∀ j : Nat, j < 64 → ksum (fun k => k == j) kb ≤ allb / 8) (hs : alla + allb ≤ 2000) :
    okB (sumK ka kb (alla + allb)) (alla + allb) = true ∧
    (∀ p : Nat → Bool, (∀ m, 1 ≤ m → m ≤ 63 → p m = true → p (2 * m) = true ∧ p (2 * m + 1) = true) → ksum p (sumK ka kb (alla + allb)) ≤ ksum p ka + ksum p kb) ∧
    (∀ p : Nat → Bool, (∀ m, 1 ≤ m → m ≤ 63 → p (2 * m) = true ∨ p (2 * m + 1) = true → p m = true) → ksum p ka + ksum p kb ≤ ksum p (sumK ka kb (alla + allb))) := by
  have fa1 := fa.lo
  have fa2 := fa.sum
  obtain ⟨n1, w1⟩ := zrG (ks := ka) fa.good zeros_p (Int.le_refl 0) (by omega)
  obtain ⟨n2, w2⟩ := zrG (ks := kb) gb n1 (by omega) (by omega)
  have hw : ∀ p, wsum p 0 (numsGo kb (numsGo ka zeros)) = ksum p ka + ksum p kb := fun p => by rw [w2, w1, zDo]; omega
  obtain ⟨s1, s2, s3, s4⟩ := zDp (all := alla + allb) (top := 0 + ksum yes ka + ksum yes kb) (by omega) (n := 63) (a := numsGo kb (numsGo ka zeros)) (by omega) n2
  have hd := w64_div (all := alla + allb) (by omega) hs
  have hpart : ∀ j, 1 ≤ j → j < 64 → (numsGo kb (numsGo ka zeros)).getD j 0 ≤ w64 ((alla + allb).tdiv 8) := fun j hj1 hj2 => by
    have := zDn (l := numsGo kb (numsGo ka zeros)) (i := 0) (j := j)
    rw [Nat.zero_add, hw] at this
    rw [← this, hd]
    have := fa.part j hj2
    have := pb j hj2
    omega
  have s4' := s4 hpart (by rw [hd]; omega)
  have hk : ∀ p, ksum p (sumK ka kb (alla + allb)) = wsum p 0 (sqGo (alla + allb) 63 (numsGo kb (numsGo ka zeros))) := fun p => zDq s1.nn
  refine ⟨?_, fun p hp => by rw [hk, ← hw]; exact s2 p hp, fun p hp => by rw [hk, ← hw]; exact s3 p hp⟩
  have hz : (sqGo (alla + allb) 63 (numsGo kb (numsGo ka zeros))).getD 0 0 = 0 := by
    rw [zrt, zme gb, zme fa.good]; decide
  have htot : wsum yes 0 (sqGo (alla + allb) 63 (numsGo kb (numsGo ka zeros))) = alla + allb := by
    have h1 := s2 yes (fun _ _ _ _ => ⟨rfl, rfl⟩)
    have h2 := s3 yes (fun _ _ _ _ => rfl)
    have h3 := hw yes
    omega
  unfold okB sumK
  rw [if_neg (by omega), zCN (by omega)]
  obtain ⟨x, r, hxr⟩ : ∃ x r, sqGo (alla + allb) 63 (numsGo kb (numsGo ka zeros)) = x :: r := by
    cases h : sqGo (alla + allb) 63 (numsGo kb (numsGo ka zeros)) with
    | nil => have := s1.len; rw [h] at this; simp at this
    | cons x r => exact ⟨x, r, rfl⟩
  have hl := s1.len
  have hnn := s1.nn
  rw [hxr] at hz htot hl hnn s4' ⊢
  have hx : x = 0 := hz
  subst hx
  simp only [wsum, if_true, List.length_cons] at htot hl
  rw [List.drop_succ_cons, List.drop_zero]
  exact ok_list hs (by omega) (by omega) (by omega) (fun j => hnn (j + 1)) (fun j hj => s4' (j + 1) (by omega) (by omega)) (by omega) (by omega)
def plo (t : Int) (i : Nat) : Bool := decide ((span (i : Int)).2 ≤ t)
def phi (t : Int) (i : Nat) : Bool := decide ((span (i : Int)).1 ≤ t)
theorem zDs : ∀ n : Nat, n < 64 → 1 ≤ n → (span ((2 * n : Nat) : Int)).2 ≤ (span (n : Int)).2 ∧ (span ((2 * n + 1 : Nat) : Int)).2 ≤ (span (n : Int)).2 ∧ (span (n : Int)).1 ≤ (span ((2 * n : Nat) : Int)).1 ∧ (span (n : Int)).1 ≤ (span ((2 * n + 1 : Nat) : Int)).1 := by
  decide +kernel
theorem zO0 (t : Int) : ∀ m, 1 ≤ m → m ≤ 63 → plo t m = true → plo t (2 * m) = true ∧ plo t (2 * m + 1) = true := fun m h1 h2 h => by
  have := zDs m (by omega) h1
  unfold plo at h ⊢
  simp only [decide_eq_true_eq] at h ⊢
  omega
theorem zO1 (t : Int) : ∀ m, 1 ≤ m → m ≤ 63 → phi t (2 * m) = true ∨ phi t (2 * m + 1) = true → phi t m = true := fun m h1 h2 h => by
  have := zDs m (by omega) h1
  unfold phi at h ⊢
  simp only [decide_eq_true_eq] at h ⊢
  omega
end Go.Proofs.YtdgdoeknpakmlaaGreat.Den
namespace Go.Proofs.YtdgdoeknpakmlaaGreat.Den
open Go
theorem zDt {ka kb : List Knot} {aa ab : Int} (h : okB ka aa = true) (h' : okB kb ab = true) (ha : aa + ab ≤ 2000) :
    (rankJoin ka aa kb ab).2 = true ∧ okB (rankJoin ka aa kb ab).1.1 (rankJoin ka aa kb ab).1.2.1 = true ∧ (rankJoin ka aa kb ab).1.2.1 = aa + ab ∧
    ∀ i, ksum (plo i) (rankJoin ka aa kb ab).1.1 ≤ ksum (plo i) ka + ksum (plo i) kb ∧ ksum (phi i) ka + ksum (phi i) kb ≤ ksum (phi i) (rankJoin ka aa kb ab).1.1 := by
  have hB : joinB ka aa kb ab = true := by
    unfold joinB
    simp only [h, h', ha, decide_true, Bool.and_self]
  have fa := zh5 h
  have fb := zh5 h'
  obtain ⟨s1, s2, s3⟩ := zOZ (ka := ka) (kb := kb) (alla := aa) (allb := ab) fa fb.good fb.sum fb.lo fb.part ha
  have e : rankJoin ka aa kb ab = ((sumK ka kb (aa + ab), aa + ab, ()), true) := by
    unfold rankJoin
    rw [hB, cond_true]
  rw [e]
  have lo := fun i => s2 (plo i) (zO0 i)
  have hi := fun i => s3 (phi i) (zO1 i)
  generalize sumK ka kb (aa + ab) = K at s1 lo hi
  exact ⟨rfl, s1, rfl, fun i => ⟨lo i, hi i⟩⟩
theorem zO2 (f : Nat) (ka kb : List Knot) (aa ab : Int) (hla : ka.length < 2147483648) (hlb : kb.length < 2147483648) (hfa : ka.length < f) (hfb : kb.length < f) (hf : 128 < f) :
    zcW f ((ka, aa, ()), (kb, ab, ()), ()) = some ((rankJoin ka aa kb ab).1, ((rankJoin ka aa kb ab).2, ()), ()) := by
  rw [zOY f ka kb aa ab hla hlb hfa hfb hf]; unfold rankJoin
  cases joinB ka aa kb ab <;> rfl
theorem zO3 {p : Int → Bool} : 0 < (fst6 p).length ↔ ∃ k, 0 ≤ k ∧ k < 64 ∧ p k = true := by
  unfold fst6
  rw [List.length_take]
  constructor
  · intro h
    have h' : 0 < (ascN p 64 0).length := by omega
    obtain ⟨k, hk⟩ := List.exists_mem_of_length_pos h'
    have := zh1.1 hk
    exact ⟨k, this.1, by omega, this.2.2⟩
  · rintro ⟨k, h0, h1, hp⟩
    have : k ∈ ascN p 64 0 := zh1.2 ⟨h0, by omega, hp⟩
    have := List.length_pos_of_mem this
    omega
theorem zrH {l : List Int} (h : fewB l = true) : ∀ x ∈ l, 0 ≤ x ∧ x ≤ 63 := fun x hx => by
  unfold fewB at h
  simp only [Bool.and_eq_true] at h
  have := za9 h.2 hx; omega
theorem zO4 {p q : Int → Bool} : fewJoin (fst6 p) (fst6 q) = (fst6 fun k => p k || q k, true) := by
  unfold fewJoin
  rw [zbO, zbO, Bool.and_self, cond_true]
  have e3 := zry (p := p) (zrH (zbO q))
  have e4 := zmi p (fun k => (fst6 q).contains k)
  rw [← zba (zbO q), zmi] at e4
  rw [e3, ← e4]
theorem zDu {a b : List Int} (h : fewB a = true) (h' : fewB b = true) : (fewJoin a b).2 = true ∧ fewB (fewJoin a b).1 = true ∧ (0 < (fewJoin a b).1.length ↔ 0 < a.length ∨ 0 < b.length) := by
  have ha := zba h
  have hb := zba h'
  have e := zO4 (p := fun k => a.contains k) (q := fun k => b.contains k)
  rw [← ha, ← hb] at e
  rw [e]
  refine ⟨rfl, zbO _, ?_⟩
  rw [zO3]
  constructor
  · rintro ⟨k, _, _, hk⟩
    rcases Bool.or_eq_true _ _ ▸ hk with hk | hk
    · exact .inl (List.length_pos_of_mem (List.contains_iff_mem.1 hk))
    · exact .inr (List.length_pos_of_mem (List.contains_iff_mem.1 hk))
  · rintro (hl | hl)
    · obtain ⟨k, hk⟩ := List.exists_mem_of_length_pos hl
      have := zrH h k hk
      exact ⟨k, this.1, by omega, by rw [List.contains_iff_mem.2 hk]; rfl⟩
    · obtain ⟨k, hk⟩ := List.exists_mem_of_length_pos hl
      have := zrH h' k hk
      exact ⟨k, this.1, by omega, by rw [List.contains_iff_mem.2 hk, Bool.or_true]⟩
structure Form (s : SumD) : Prop where
  rough : roughB s.1 = true
  few : fewB s.2.1 = true
  top : topB s.2.2.1 s.2.2.2.1 s.2.2.2.2.1 = true
  rank : okB s.2.2.2.2.2.1 s.2.2.2.2.2.2.1 = true
  all : allR s.1 = s.2.2.2.2.1
  same : s.2.2.2.2.1 = s.2.2.2.2.2.2.1
  some : 0 < s.2.1.length ↔ 0 < s.2.2.2.2.1
theorem zae {s : SumD} : sumBD s = true ↔ Form s := by
  unfold sumBD sumB
  simp only [Bool.and_eq_true, beq_iff_eq]
  constructor
  · rintro ⟨h1, h2, h3, h4, h5, h6, h7⟩
    have h8 := decide_eq_decide.1 h7
    exact ⟨h1, h2, h3, h4, h5, h6, by omega⟩
  · rintro ⟨h1, h2, h3, h4, h5, h6, h7⟩
    exact ⟨h1, h2, h3, h4, h5, h6, decide_eq_decide.2 (by omega)⟩
theorem Form.all_rng {s : SumD} (h : Form s) : 0 ≤ s.2.2.2.2.1 ∧ s.2.2.2.2.1 ≤ 2000 := (four h.top).2.2.2
abbrev pt (s : SumD) : List Knot := s.2.2.1
abbrev ptLost (s : SumD) : Int := s.2.2.2.1
abbrev allOf (s : SumD) : Int := s.2.2.2.2.1
abbrev kn (s : SumD) : List Knot := s.2.2.2.2.2.1
theorem zDv {s u : SumD} (h : Form s) (h' : Form u) (ha : allOf s + allOf u ≤ 2000) :
    (sumJoin s u).2 = true ∧ Form (sumJoin s u).1 ∧ allOf (sumJoin s u).1 = allOf s + allOf u ∧ (sumJoin s u).1.1 = (roughJoin s.1 u.1).1 ∧ (sumJoin s u).1.2.1 = (fewJoin s.2.1 u.2.1).1 ∧
    (∀ i, i < 3 → ∀ j, cell (sumJoin s u).1.1 i j = cell s.1 i j + cell u.1 i j) ∧ ptLost s + ptLost u ≤ ptLost (sumJoin s u).1 ∧
    (∀ k, cntK (pt (sumJoin s u).1) k ≤ cntK (pt s) k + cntK (pt u) k ∧ cntK (pt s) k + cntK (pt u) k + (ptLost s + ptLost u) ≤ cntK (pt (sumJoin s u).1) k + ptLost (sumJoin s u).1) ∧
    ∀ i, ksum (plo i) (kn (sumJoin s u).1) ≤ ksum (plo i) (kn s) + ksum (plo i) (kn u) ∧ ksum (phi i) (kn s) + ksum (phi i) (kn u) ≤ ksum (phi i) (kn (sumJoin s u).1) := by
  have hr := h.all_rng
  have hr' := h'.all_rng
  have ha' : s.2.2.2.2.1 + u.2.2.2.2.1 ≤ 2000 := ha
  have r := zDd h.rough h'.rough (by rw [h.all, h'.all]; exact ha)
  have m := zDu h.few h'.few
  have p := zDk h.top h'.top ha
  have k := zDt h.rank h'.rank (by rw [← h.same, ← h'.same]; exact ha)
  have ew : w64 (s.2.2.2.2.1 + u.2.2.2.2.1) = s.2.2.2.2.1 + u.2.2.2.2.1 := by rw [w64_id] <;> omega
  have e : sumJoin s u = (((roughJoin s.1 u.1).1, (fewJoin s.2.1 u.2.1).1, (topJoin s.2.2.1 s.2.2.2.1 s.2.2.2.2.1 u.2.2.1 u.2.2.2.1 u.2.2.2.2.1).1.1, (topJoin s.2.2.1 s.2.2.2.1 s.2.2.2.2.1 u.2.2.1 u.2.2.2.1 u.2.2.2.2.1).1.2.1, (topJoin s.2.2.1 s.2.2.2.1 s.2.2.2.2.1 u.2.2.1 u.2.2.2.1 u.2.2.2.2.1).1.2.2.1, (rankJoin s.2.2.2.2.2.1 s.2.2.2.2.2.2.1 u.2.2.2.2.2.1 u.2.2.2.2.2.2.1).1.1, (rankJoin s.2.2.2.2.2.1 s.2.2.2.2.2.2.1 u.2.2.2.2.2.1 u.2.2.2.2.2.2.1).1.2.1, ()), true) := by
    unfold sumJoin
    simp only [zae.2 h, zae.2 h', ew, show s.2.2.2.2.1 + u.2.2.2.2.1 ≤ 2000 from ha, decide_true, Bool.and_self, cond_true]
  rw [e]
  refine ⟨rfl, ⟨r.2.1, m.2.1, p.2.1, k.2.1, ?_, ?_, ?_⟩, p.2.2.1, rfl, rfl, r.2.2.2, p.2.2.2.1, p.2.2.2.2, k.2.2.2⟩
  · show allR (roughJoin s.1 u.1).1 = (topJoin s.2.2.1 s.2.2.2.1 s.2.2.2.2.1 u.2.2.1 u.2.2.2.1 u.2.2.2.2.1).1.2.2.1
    rw [r.2.2.1, p.2.2.1, h.all, h'.all]
  · show (topJoin s.2.2.1 s.2.2.2.1 s.2.2.2.2.1 u.2.2.1 u.2.2.2.1 u.2.2.2.2.1).1.2.2.1 = (rankJoin s.2.2.2.2.2.1 s.2.2.2.2.2.2.1 u.2.2.2.2.2.1 u.2.2.2.2.2.2.1).1.2.1
    rw [p.2.2.1, k.2.2.1, h.same, h'.same]
  · show 0 < (fewJoin s.2.1 u.2.1).1.length ↔ 0 < (topJoin s.2.2.1 s.2.2.2.1 s.2.2.2.2.1 u.2.2.1 u.2.2.2.1 u.2.2.2.2.1).1.2.2.1
    rw [p.2.2.1, m.2.2, h.some, h'.some]
    omega
end Go.Proofs.YtdgdoeknpakmlaaGreat.Den
namespace Go.Proofs.YtdgdoeknpakmlaaGreat.Den
open Go
theorem set_mid {α : Type} {x y : α} {r : List α} : ∀ {p : List α}, (p ++ x :: r).set p.length y = p ++ y :: r
  | [] => rfl
  | z :: p => by simp [set_mid (p := p)]
theorem zdz {α : Type} {x d : α} {r : List α} : ∀ {p : List α}, (p ++ x :: r).getD p.length d = x
  | [] => rfl
  | z :: p => by simp
theorem len_mid {α : Type} {x : α} {p r : List α} : (p ++ x :: r).length = p.length + r.length + 1 := by simp; omega
theorem zbQ (f : Nat) (l : List Int) (hl : l.length ≤ 1048576) (hf : l.length < f) : zF f ((l, ()), ()) = some ((l, ()), ()) := by
  show zj7 f (iter (zj6 f) f) l = _
  unfold zj7
  have h1 := lim_of hl
  simp only [zz_eq, Int.toNat_natCast, Int.natCast_nonneg, Int.le_refl, h1, decide_true, cond_true]
  refine (zhY (st := zj6 f) (enc := fun i out => ((i : Int), l, out)) (fun out => some ((out, ()), ())) l 0 id ?_ ?_ f 0 hf).trans (by rw [List.map_id])
  · intro i out g hi ho
    show zgf f g _ = _
    unfold zgf
    have ho' : i < out.length := by omega
    simp only [zz_eq, lt_cast hi, lt_cast ho', ho', le_cast, decide_true, cond_true, Int.toNat_natCast, w64_up (show i < 4294967296 by omega)]
    rfl
  · intro s g
    show zgf f g _ = _
    unfold zgf
    simp only [zz_eq, zb, decide_false, cond_false]
theorem zDw (f : Nat) (l : List Int) (hl : l.length ≤ 1048576) (hf : l.length < f) : zgl f ((l, ()), (l, ()), ()) = some ((true, ()), ()) := by
  show zkb f (iter (zka f) f) l l = _
  unfold zkb
  simp only [bne_self_eq_false, cond_false]
  refine zhZ (st := zka f) (enc := fun i => ((i : Int), l, l)) _ l.length ?_ ?_ l.length 0 f (by omega) hf
  · intro i g hi
    show zgk f g _ = _
    unfold zgk
    simp only [zz_eq, lt_cast hi, le_cast, decide_true, cond_true, Int.toNat_natCast, w64_up (show i < 4294967296 by omega), bne_self_eq_false, cond_false]
  · intro g
    show zgk f g _ = _
    unfold zgk
    simp only [zz_eq, zb, decide_false, cond_false]
theorem zO5 (f : Nat) (l : List (List Int)) (hl : l.length ≤ 1048576) (hr : ∀ r ∈ l, r.length ≤ 1048576) (hf : 1048576 < f) : zkg f ((l, ()), (l, ()), ()) = some ((true, ()), ()) := by
  show zkf f (iter (zke f) f) l l = _
  unfold zkf
  simp only [bne_self_eq_false, cond_false]
  refine zhZ (st := zke f) (enc := fun i => ((i : Int), l, l)) _ l.length ?_ ?_ l.length 0 f (by omega) (by omega)
  · intro i g hi
    show zgq f g _ = _
    unfold zgq
    have hx : (l.getD i []).length ≤ 1048576 := hr _ (by rw [List.getD_eq_getElem?_getD, List.getElem?_eq_getElem hi]; exact List.getElem_mem hi)
    simp only [zz_eq, lt_cast hi, le_cast, decide_true, cond_true, Int.toNat_natCast, w64_up (show i < 4294967296 by omega), zDw f _ hx (by omega), Option.bind_some, Bool.not_true, cond_false]
  · intro g
    show zgq f g _ = _
    unfold zgq
    simp only [zz_eq, zb, decide_false, cond_false]
theorem zO6 (f : Nat) (l : List Knot) (hl : l.length ≤ 1048576) (hf : l.length < f) : zkn f ((l, ()), (l, ()), ()) = some ((true, ()), ()) := by
  show zkm f (iter (zkl f) f) l l = _
  unfold zkm
  simp only [bne_self_eq_false, cond_false]
  have ek : ∀ x y : Int, zkj f ((x, y, ()), (x, y, ()), ()) = some ((true, ()), ()) := fun x y => by
    show zoP f x y x y = _
    unfold zoP
    simp
  refine zhZ (st := zkl f) (enc := fun i => ((i : Int), l, l)) _ l.length ?_ ?_ l.length 0 f (by omega) hf
  · intro i g hi
    show zgv f g _ = _
    unfold zgv
    simp only [zz_eq, lt_cast hi, le_cast, decide_true, cond_true, Int.toNat_natCast, w64_up (show i < 4294967296 by omega), ek, Option.bind_some, Bool.not_true, cond_false]
  · intro g
    show zgv f g _ = _
    unfold zgv
    simp only [zz_eq, zb, decide_false, cond_false]
theorem zO7 (f : Nat) (l : List Knot) (hl : l.length ≤ 1048576) (hf : l.length < f) : zkt f ((l, ()), (l, ()), ()) = some ((true, ()), ()) := by
  show zks f (iter (zkr f) f) l l = _
  unfold zks
  simp only [bne_self_eq_false, cond_false]
  have ek : ∀ x y : Int, zkp f ((x, y, ()), (x, y, ()), ()) = some ((true, ()), ()) := fun x y => by
    show zoW f x y x y = _
    unfold zoW
    simp
  refine zhZ (st := zkr f) (enc := fun i => ((i : Int), l, l)) _ l.length ?_ ?_ l.length 0 f (by omega) hf
  · intro i g hi
    show zgA f g _ = _
    unfold zgA
    simp only [zz_eq, lt_cast hi, le_cast, decide_true, cond_true, Int.toNat_natCast, w64_up (show i < 4294967296 by omega), ek, Option.bind_some, Bool.not_true, cond_false]
  · intro g
    show zgA f g _ = _
    unfold zgA
    simp only [zz_eq, zb, decide_false, cond_false]
theorem zdA (f : Nat) (rs : List (List Int)) (ms : List Int) (ps : List Knot) (lost tall : Int) (ks : List Knot) (rall : Int) (hs : Short rs ms ps ks 1048576) (hf : 1048576 < f) :
    zl f ((rs, ms, ps, lost, tall, ks, rall, ()), (rs, ms, ps, lost, tall, ks, rall, ()), ()) = some ((true, ()), ()) := by
  obtain ⟨s1, s2, s3, s4, s5⟩ := hs
  show zo3 f rs ms ps lost tall ks rall rs ms ps lost tall ks rall = _
  unfold zo3
  have e1 : zkh f ((rs, ()), (rs, ()), ()) = some ((true, ()), ()) := by
    show zoJ f rs rs = _
    unfold zoJ; rw [zO5 f rs s1 s2 hf]; rfl
  have e2 : zki f ((ms, ()), (ms, ()), ()) = some ((true, ()), ()) := by
    show zoM f ms ms = _
    unfold zoM; rw [zDw f ms s3 (by omega)]; rfl
  have e3 : zko f ((ps, lost, tall, ()), (ps, lost, tall, ()), ()) = some ((true, ()), ()) := by
    show zoT f ps lost tall ps lost tall = _
    unfold zoT; rw [zO6 f ps s4 (by omega)]; simp
  have e4 : zku f ((ks, rall, ()), (ks, rall, ()), ()) = some ((true, ()), ()) := by
    show zo0 f ks rall ks rall = _
    unfold zo0; rw [zO7 f ks s5 (by omega)]; simp
  rw [e1, Option.bind_some, e2, Option.bind_some, e3, Option.bind_some, e4]; rfl
def mk : Nat → Int → List Knot
  | 0, _ => []
  | n + 1, k => (k, k + 1, ()) :: mk n (k + 2)
theorem zDx (f : Nat) : ∀ (r p : List Knot) (k : Int) (fuel : Nat), 0 ≤ k → k + 2 * r.length ≤ 1000000000000000 → p.length + r.length < 4294967296 → r.length < fuel →
    iter (zkH f) fuel ((p.length : Int), k, p ++ r) = some (p ++ mk r.length k, (k + 2 * r.length, ()), ())
  | [], p, k, fuel + 1, h0, h1, hl, hf => by
    rw [iter]
    show zgY f _ _ = _
    unfold zgY
    simp [zz_eq, mk]
  | x :: r, p, k, fuel + 1, h0, h1, hl, hf => by
    rw [iter]
    show zgY f _ _ = _
    unfold zgY
    simp only [List.length_cons] at h1 hl hf
    have g1 : (p.length : Int) < ((p.length + r.length + 1 : Nat) : Int) := by omega
    have g2 : p.length < p.length + r.length + 1 := by omega
    have h3 : w64 ((p.length : Int) + 1) = ((p.length + 1 : Nat) : Int) := by rw [w64_id] <;> omega
    have h4 : (0 : Int) ≤ (p.length : Int) := by omega
    have e1 : w64 (k + 1) = k + 1 := by rw [w64_id] <;> omega
    have e2 : w64 (k + 1 + 1) = k + 2 := by rw [w64_id] <;> omega
    have ih := zDx f r (p ++ [(k, k + 1, ())]) (k + 2) fuel (by omega) (by omega) (by simp; omega) (by omega)
    simp only [List.append_assoc, List.singleton_append, List.length_append, List.length_singleton] at ih
    simp only [zz_eq, len_mid, g1, g2, h4, decide_true, cond_true, Int.toNat_natCast, zdz, set_mid, h3, e1, e2]
    rw [ih]
    have : k + 2 + 2 * (r.length : Int) = k + 2 * ((r.length + 1 : Nat) : Int) := by omega
    rw [this]; rfl
theorem zh6 (f : Nat) (ks : List Knot) (k : Int) (h0 : 0 ≤ k) (h1 : k ≤ 100000000000000) (hl : ks.length ≤ 1048576) (hf : ks.length < f) :
    zaY f (ks, (), (k, ()), ()) = some (mk ks.length k, (k + 2 * ks.length, ()), ()) := by
  show zkI f (iter (zkH f) f) ks k = _
  unfold zkI
  have := zDx f ks [] k f h0 (by omega) (by simp; omega) hf
  simpa using this
theorem zDy (f : Nat) : ∀ (n : Nat) (p : List Knot) (k : Int) (fuel : Nat), 0 ≤ k → k + 2 * n ≤ 1000000000000000 → p.length + n < 4294967296 → n < fuel →
    iter (zk0 f) fuel ((p.length : Int), p ++ mk n k, k) = some ((k + 2 * n, ()), ())
  | 0, p, k, fuel + 1, h0, h1, hl, hf => by
    rw [iter]
    show zhm f _ _ = _
    unfold zhm
    simp [zz_eq, mk]
  | n + 1, p, k, fuel + 1, h0, h1, hl, hf => by
    rw [iter]
    show zhm f _ _ = _
    unfold zhm
    rw [mk]
    have g1 : (p.length : Int) < ((p.length + (mk n (k + 2)).length + 1 : Nat) : Int) := by omega
    have h3 : w64 ((p.length : Int) + 1) = ((p.length + 1 : Nat) : Int) := by rw [w64_id] <;> omega
    have h4 : (0 : Int) ≤ (p.length : Int) := by omega
    have e1 : w64 (k + 1) = k + 1 := by rw [w64_id] <;> omega
    have e2 : w64 (k + 1 + 1) = k + 2 := by rw [w64_id] <;> omega
    have ih := zDy f n (p ++ [(k, k + 1, ())]) (k + 2) fuel (by omega) (by omega) (by simp; omega) (by omega)
    simp only [List.append_assoc, List.singleton_append, List.length_append, List.length_singleton] at ih
    simp only [zz_eq, len_mid, g1, h4, decide_true, cond_true, Int.toNat_natCast, zdz, h3, e1, e2, bne_self_eq_false, cond_false]
    rw [ih]
    have : k + 2 + 2 * (n : Int) = k + 2 * ((n + 1 : Nat) : Int) := by omega
    rw [this]
theorem zO8 (f n : Nat) (k : Int) (h0 : 0 ≤ k) (h1 : k ≤ 100000000000000) (hl : n ≤ 1048576) (hf : n < f) :
    zk2 f ((mk n k, ()), (k, ()), ()) = some ((k + 2 * n, ()), ()) := by
  show zk1 f (iter (zk0 f) f) (mk n k) k = _
  unfold zk1
  have := zDy f n [] k f h0 (by omega) (by simp; omega) hf
  simpa using this
theorem zDz (f : Nat) : ∀ (r p : List Knot) (k : Int) (fuel : Nat), 0 ≤ k → k + 2 * r.length ≤ 1000000000000000 → p.length + r.length < 4294967296 → r.length < fuel →
    iter (zkC f) fuel ((p.length : Int), k, p ++ r) = some (p ++ mk r.length k, (k + 2 * r.length, ()), ())
  | [], p, k, fuel + 1, h0, h1, hl, hf => by
    rw [iter]
    show zgP f _ _ = _
    unfold zgP
    simp [zz_eq, mk]
  | x :: r, p, k, fuel + 1, h0, h1, hl, hf => by
    rw [iter]
    show zgP f _ _ = _
    unfold zgP
    simp only [List.length_cons] at h1 hl hf
    have g1 : (p.length : Int) < ((p.length + r.length + 1 : Nat) : Int) := by omega
    have g2 : p.length < p.length + r.length + 1 := by omega
    have h3 : w64 ((p.length : Int) + 1) = ((p.length + 1 : Nat) : Int) := by rw [w64_id] <;> omega
    have h4 : (0 : Int) ≤ (p.length : Int) := by omega
    have e1 : w64 (k + 1) = k + 1 := by rw [w64_id] <;> omega
    have e2 : w64 (k + 1 + 1) = k + 2 := by rw [w64_id] <;> omega
    have ih := zDz f r (p ++ [(k, k + 1, ())]) (k + 2) fuel (by omega) (by omega) (by simp; omega) (by omega)
    simp only [List.append_assoc, List.singleton_append, List.length_append, List.length_singleton] at ih
    simp only [zz_eq, len_mid, g1, g2, h4, decide_true, cond_true, Int.toNat_natCast, zdz, set_mid, h3, e1, e2]
    rw [ih]
    have : k + 2 + 2 * (r.length : Int) = k + 2 * ((r.length + 1 : Nat) : Int) := by omega
    rw [this]; rfl
theorem zh7 (f : Nat) (ks : List Knot) (k : Int) (h0 : 0 ≤ k) (h1 : k ≤ 100000000000000) (hl : ks.length ≤ 1048576) (hf : ks.length < f) :
    zaX f (ks, (), (k, ()), ()) = some (mk ks.length k, (k + 2 * ks.length, ()), ()) := by
  show zkD f (iter (zkC f) f) ks k = _
  unfold zkD
  have := zDz f ks [] k f h0 (by omega) (by simp; omega) hf
  simpa using this
theorem zDA (f : Nat) : ∀ (n : Nat) (p : List Knot) (k : Int) (fuel : Nat), 0 ≤ k → k + 2 * n ≤ 1000000000000000 → p.length + n < 4294967296 → n < fuel →
    iter (zkV f) fuel ((p.length : Int), p ++ mk n k, k) = some ((k + 2 * n, ()), ())
  | 0, p, k, fuel + 1, h0, h1, hl, hf => by
    rw [iter]
    show zhh f _ _ = _
    unfold zhh
    simp [zz_eq, mk]
  | n + 1, p, k, fuel + 1, h0, h1, hl, hf => by
    rw [iter]
    show zhh f _ _ = _
    unfold zhh
    rw [mk]
    have g1 : (p.length : Int) < ((p.length + (mk n (k + 2)).length + 1 : Nat) : Int) := by omega
    have h3 : w64 ((p.length : Int) + 1) = ((p.length + 1 : Nat) : Int) := by rw [w64_id] <;> omega
    have h4 : (0 : Int) ≤ (p.length : Int) := by omega
    have e1 : w64 (k + 1) = k + 1 := by rw [w64_id] <;> omega
    have e2 : w64 (k + 1 + 1) = k + 2 := by rw [w64_id] <;> omega
    have ih := zDA f n (p ++ [(k, k + 1, ())]) (k + 2) fuel (by omega) (by omega) (by simp; omega) (by omega)
    simp only [List.append_assoc, List.singleton_append, List.length_append, List.length_singleton] at ih
    simp only [zz_eq, len_mid, g1, h4, decide_true, cond_true, Int.toNat_natCast, zdz, h3, e1, e2, bne_self_eq_false, cond_false]
    rw [ih]
    have : k + 2 + 2 * (n : Int) = k + 2 * ((n + 1 : Nat) : Int) := by omega
    rw [this]
theorem zO9 (f n : Nat) (k : Int) (h0 : 0 ≤ k) (h1 : k ≤ 100000000000000) (hl : n ≤ 1048576) (hf : n < f) :
    zkX f ((mk n k, ()), (k, ()), ()) = some ((k + 2 * n, ()), ()) := by
  show zkW f (iter (zkV f) f) (mk n k) k = _
  unfold zkW
  have := zDA f n [] k f h0 (by omega) (by simp; omega) hf
  simpa using this
def mkN : Nat → Int → List Int
  | 0, _ => []
  | n + 1, k => k :: mkN n (k + 1)
theorem zDB (f : Nat) : ∀ (r p : List Int) (k : Int) (fuel : Nat), 0 ≤ k → k + r.length ≤ 1000000000000000 → p.length + r.length < 4294967296 → r.length < fuel →
    iter (zkx f) fuel ((p.length : Int), k, p ++ r) = some (p ++ mkN r.length k, (k + r.length, ()), ())
  | [], p, k, fuel + 1, h0, h1, hl, hf => by
    rw [iter]
    show zgF f _ _ = _
    unfold zgF
    simp [zz_eq, mkN]
  | x :: r, p, k, fuel + 1, h0, h1, hl, hf => by
    rw [iter]
    show zgF f _ _ = _
    unfold zgF
    simp only [List.length_cons] at h1 hl hf
    have g1 : (p.length : Int) < ((p.length + r.length + 1 : Nat) : Int) := by omega
    have g2 : p.length < p.length + r.length + 1 := by omega
    have h3 : w64 ((p.length : Int) + 1) = ((p.length + 1 : Nat) : Int) := by rw [w64_id] <;> omega
    have h4 : (0 : Int) ≤ (p.length : Int) := by omega
    have e1 : w64 (k + 1) = k + 1 := by rw [w64_id] <;> omega
    have ih := zDB f r (p ++ [k]) (k + 1) fuel (by omega) (by omega) (by simp; omega) (by omega)
    simp only [List.append_assoc, List.singleton_append, List.length_append, List.length_singleton] at ih
    simp only [zz_eq, len_mid, g1, g2, h4, decide_true, cond_true, Int.toNat_natCast, zdz, set_mid, h3, e1]
    rw [ih]
    have : k + 1 + (r.length : Int) = k + ((r.length + 1 : Nat) : Int) := by omega
    rw [this]; rfl
theorem zaH (f : Nat) (l : List Int) (k : Int) (h0 : 0 ≤ k) (h1 : k ≤ 100000000000000) (hl : l.length ≤ 1048576) (hf : l.length < f) :
    zy f (l, (), (k, ()), ()) = some (mkN l.length k, (k + l.length, ()), ()) := by
  show zky f (iter (zkx f) f) l k = _
  unfold zky
  have := zDB f l [] k f h0 (by omega) (by simp; omega) hf
  simpa using this
theorem zDC (f : Nat) : ∀ (n : Nat) (p : List Int) (k : Int) (fuel : Nat), 0 ≤ k → k + n ≤ 1000000000000000 → p.length + n < 4294967296 → n < fuel →
    iter (zkM f) fuel ((p.length : Int), p ++ mkN n k, k) = some ((k + n, ()), ())
  | 0, p, k, fuel + 1, h0, h1, hl, hf => by
    rw [iter]
    show zg7 f _ _ = _
    unfold zg7
    simp [zz_eq, mkN]
  | n + 1, p, k, fuel + 1, h0, h1, hl, hf => by
    rw [iter]
    show zg7 f _ _ = _
    unfold zg7
    rw [mkN]
    have g1 : (p.length : Int) < ((p.length + (mkN n (k + 1)).length + 1 : Nat) : Int) := by omega
    have h3 : w64 ((p.length : Int) + 1) = ((p.length + 1 : Nat) : Int) := by rw [w64_id] <;> omega
    have h4 : (0 : Int) ≤ (p.length : Int) := by omega
    have e1 : w64 (k + 1) = k + 1 := by rw [w64_id] <;> omega
    have ih := zDC f n (p ++ [k]) (k + 1) fuel (by omega) (by omega) (by simp; omega) (by omega)
    simp only [List.append_assoc, List.singleton_append, List.length_append, List.length_singleton] at ih
    simp only [zz_eq, len_mid, g1, h4, decide_true, cond_true, Int.toNat_natCast, zdz, h3, e1, bne_self_eq_false, cond_false]
    rw [ih]
    have : k + 1 + (n : Int) = k + ((n + 1 : Nat) : Int) := by omega
    rw [this]
theorem zmp (f n : Nat) (k : Int) (h0 : 0 ≤ k) (h1 : k ≤ 100000000000000) (hl : n ≤ 1048576) (hf : n < f) :
    zg8 f ((mkN n k, ()), (k, ()), ()) = some ((k + n, ()), ()) := by
  show zkN f (iter (zkM f) f) (mkN n k) k = _
  unfold zkN
  have := zDC f n [] k f h0 (by omega) (by simp; omega) hf
  simpa using this
theorem zPa (f : Nat) (a b c : Nat) (k : Int) (h0 : 0 ≤ k) (h1 : k ≤ 1000) (ha : a ≤ 1000) (hb : b ≤ 1000) (hc : c ≤ 1000) (hf : 2000 < f) :
    zkR f (([mkN a k, mkN b (k + a), mkN c (k + a + b)], ()), (k, ()), ()) = some ((k + a + b + c, ()), ()) := by
  obtain ⟨g, rfl⟩ : ∃ g, f = g + 1 + 1 + 1 + 1 := ⟨f - 4, by omega⟩
  have e1 := zmp (g + 1 + 1 + 1 + 1) a k (by omega) (by omega) (by omega) (by omega)
  have e2 := zmp (g + 1 + 1 + 1 + 1) b (k + a) (by omega) (by omega) (by omega) (by omega)
  have e3 := zmp (g + 1 + 1 + 1 + 1) c (k + a + b) (by omega) (by omega) (by omega) (by omega)
  show zkQ (g + 1 + 1 + 1 + 1) (iter (zpb (g + 1 + 1 + 1 + 1)) (g + 1 + 1 + 1 + 1)) _ k = _
  unfold zkQ
  have n1 : ¬ k + (a : Int) < 0 := by omega
  have n2 : ¬ k + (a : Int) + b < 0 := by omega
  have n3 : ¬ k + (a : Int) + b + c < 0 := by omega
  have u1 : w64 ((0 : Int) + 1) = 1 := rfl
  have u2 : w64 ((1 : Int) + 1) = 2 := rfl
  have u3 : w64 ((2 : Int) + 1) = 3 := rfl
  have z0 : decide ((0 : Int) < zz ([mkN a k, mkN b (k + a), mkN c (k + a + b)] : List (List Int)).length) = true := rfl
  have z1 : decide ((1 : Int) < zz ([mkN a k, mkN b (k + a), mkN c (k + a + b)] : List (List Int)).length) = true := rfl
  have z2 : decide ((2 : Int) < zz ([mkN a k, mkN b (k + a), mkN c (k + a + b)] : List (List Int)).length) = true := rfl
  have z3 : decide ((3 : Int) < zz ([mkN a k, mkN b (k + a), mkN c (k + a + b)] : List (List Int)).length) = false := rfl
  have d0 : ([mkN a k, mkN b (k + a), mkN c (k + a + b)] : List (List Int)).getD (Int.toNat 0) [] = mkN a k := rfl
  have d1 : ([mkN a k, mkN b (k + a), mkN c (k + a + b)] : List (List Int)).getD (Int.toNat 1) [] = mkN b (k + a) := rfl
  have d2 : ([mkN a k, mkN b (k + a), mkN c (k + a + b)] : List (List Int)).getD (Int.toNat 2) [] = mkN c (k + a + b) := rfl
  have o0 : decide ((0 : Int) ≤ 0) = true := rfl
  have o1 : decide ((0 : Int) ≤ 1) = true := rfl
  have o2 : decide ((0 : Int) ≤ 2) = true := rfl
  generalize ([mkN a k, mkN b (k + a), mkN c (k + a + b)] : List (List Int)) = L at *
  rw [iter]; show zay _ _ _ = _; unfold zay
  simp only [z0, o0, cond_true, d0, e1, Option.bind_some, n1, decide_false, cond_false, u1]
  rw [iter]; show zay _ _ _ = _; unfold zay
  simp only [z1, o1, cond_true, d1, e2, Option.bind_some, n2, decide_false, cond_false, u2]
  rw [iter]; show zay _ _ _ = _; unfold zay
  simp only [z2, o2, cond_true, d2, e3, Option.bind_some, n3, decide_false, cond_false, u3]
  rw [iter]; show zay _ _ _ = _; unfold zay
  simp only [z3, cond_false]
theorem zPb (f : Nat) (a b c m p q : Nat) (lost tall rall : Int) (ha : a ≤ 1000) (hb : b ≤ 1000) (hc : c ≤ 1000) (hm : m ≤ 1000) (hp : p ≤ 1000) (hq : q ≤ 1000) (hf : 2000 < f) :
    zaZ f (([mkN a 1, mkN b ((1 : Int) + a), mkN c ((1 : Int) + a + b)], mkN m ((1 : Int) + a + b + c), mk p ((1 : Int) + a + b + c + m), lost, tall, mk q ((1 : Int) + a + b + c + m + 2 * p), rall, ()), (1, ()), ()) = some (((1 : Int) + a + b + c + m + 2 * p + 2 * q, ()), ()) := by
  show zps f _ _ _ lost tall _ rall 1 = _
  unfold zps
  have e1 : zkS f (([mkN a 1, mkN b ((1 : Int) + a), mkN c ((1 : Int) + a + b)], ()), (1, ()), ()) = some (((1 : Int) + a + b + c, ()), ()) := by
    show zpe f _ 1 = _
    unfold zpe
    rw [zPa f a b c 1 (by omega) (by omega) ha hb hc hf, Option.bind_some]
    have : ¬ (1 : Int) + a + b + c < 0 := by omega
    simp only [this, decide_false, cond_false]
  have e2 : zkT f ((mkN m ((1 : Int) + a + b + c), ()), ((1 : Int) + a + b + c, ()), ()) = some (((1 : Int) + a + b + c + m, ()), ()) := by
    show zph f _ _ = _
    unfold zph
    rw [zmp f m ((1 : Int) + a + b + c) (by omega) (by omega) (by omega) (by omega), Option.bind_some]
    have : ¬ (1 : Int) + a + b + c + m < 0 := by omega
    simp only [this, decide_false, cond_false]
  have e3 : zkY f ((mk p ((1 : Int) + a + b + c + m), lost, tall, ()), ((1 : Int) + a + b + c + m, ()), ()) = some (((1 : Int) + a + b + c + m + 2 * p, ()), ()) := by
    show zpl f _ _ _ _ = _
    unfold zpl
    rw [zO9 f p ((1 : Int) + a + b + c + m) (by omega) (by omega) (by omega) (by omega), Option.bind_some]
    have : ¬ (1 : Int) + a + b + c + m + 2 * p < 0 := by omega
    simp only [this, decide_false, cond_false]
  have e4 : zk3 f ((mk q ((1 : Int) + a + b + c + m + 2 * p), rall, ()), ((1 : Int) + a + b + c + m + 2 * p, ()), ()) = some (((1 : Int) + a + b + c + m + 2 * p + 2 * q, ()), ()) := by
    show zpp f _ _ _ = _
    unfold zpp
    rw [zO8 f q ((1 : Int) + a + b + c + m + 2 * p) (by omega) (by omega) (by omega) (by omega), Option.bind_some]
    have : ¬ (1 : Int) + a + b + c + m + 2 * p + 2 * q < 0 := by omega
    simp only [this, decide_false, cond_false]
  have n1 : ¬ (1 : Int) + a + b + c < 0 := by omega
  have n2 : ¬ (1 : Int) + a + b + c + m < 0 := by omega
  have n3 : ¬ (1 : Int) + a + b + c + m + 2 * p < 0 := by omega
  have n4 : ¬ (1 : Int) + a + b + c + m + 2 * p + 2 * q < 0 := by omega
  simp only [e1, e2, e3, e4, Option.bind_some, n1, n2, n3, n4, decide_false, cond_false]
end Go.Proofs.YtdgdoeknpakmlaaGreat.Den
namespace Go.Proofs.YtdgdoeknpakmlaaGreat.Den
open Go
end Go.Proofs.YtdgdoeknpakmlaaGreat.Den
namespace Go.Proofs.YtdgdoeknpakmlaaGreat.Den
open Go
theorem cutX (f : Nat) (x : (LP × (Int × (Int × Unit))) × Unit) (h : ¬ zz x.1.1.length ≤ 4) : zj3 f x = zcF f x := by
  show zj2 f (iter (zoC f) f) x.1.1 x.1.2.1 x.1.2.2.1 = zaO f (iter (zcE f) f) x.1.1 x.1.2.1 x.1.2.2.1
  unfold zj2 zaO
  simp only [h, decide_false, cond_false]
  rfl
theorem topSumX (f : Nat) (x : (LP × (Int × (Int × Unit))) × ((LP × (Int × (Int × Unit))) × Unit)) : zj4 f x = zfD f x := by
  obtain ⟨⟨x0, x1, x2, ⟨⟩⟩, ⟨x3, x4, x5, ⟨⟩⟩, ⟨⟩⟩ := x
  show zoF f x0 x1 x2 x3 x4 x5 = zfC f x0 x1 x2 x3 x4 x5
  unfold zoF zfC
  congr 1; funext y
  by_cases h : zz y.1.1.length ≤ 4
  · have h' : zz y.1.1.length ≤ zz 4 := h
    have e : zcF f ((y.1.1, w64 (x1 + x4), w64 (x2 + x5), ()), ()) = some ((y.1.1, w64 (x1 + x4), w64 (x2 + x5), ()), ()) := by
      show zaO f (iter (zcE f) f) y.1.1 _ _ = _
      unfold zaO
      simp only [h, decide_true, cond_true]
    simp only [h, h', decide_true, cond_true, e, Option.bind_some]
  · have h' : ¬ zz y.1.1.length ≤ zz 4 := h
    simp only [h', decide_false, cond_false]
    rw [cutX f _ h]
def convR (y : ((List (List Int)) × Unit) × ((Bool × Unit) × Unit)) : Option (((List (List Int)) × Unit) × (Bool × Unit)) := cond y.2.1.1 (some (y.1, true, ())) none
end Go.Proofs.YtdgdoeknpakmlaaGreat.Den
namespace Go.Proofs.YtdgdoeknpakmlaaGreat.Den
open Go
theorem zmq {s u : SumD} (h : (sumJoin s u).2 = true) : Form s ∧ Form u ∧ allOf s + allOf u ≤ 2000 := by
  unfold sumJoin at h
  cases hc : (sumBD s && (sumBD u && decide (w64 (s.2.2.2.2.1 + u.2.2.2.2.1) ≤ 2000)))
  · rw [hc] at h; cases h
  · simp only [Bool.and_eq_true, decide_eq_true_eq] at hc
    have F := zae.1 hc.1
    have G := zae.1 hc.2.1
    have a := F.all_rng
    have b := G.all_rng
    have e : w64 (s.2.2.2.2.1 + u.2.2.2.2.1) = s.2.2.2.2.1 + u.2.2.2.2.1 := by rw [w64_id] <;> omega
    exact ⟨F, G, by have := hc.2.2; rw [e] at this; exact this⟩
end Go.Proofs.YtdgdoeknpakmlaaGreat.Den
namespace Go.Proofs.YtdgdoeknpakmlaaGreat.Den
open Go
end Go.Proofs.YtdgdoeknpakmlaaGreat.Den
namespace Go.Proofs.YtdgdoeknpakmlaaGreat.Den
open Go
theorem zDD (f : Nat) (l : List Int) (n : Int) (h0 : 0 ≤ n) (h1 : n ≤ 1048576) (hl : l.length ≤ maxLen) : zdh f ((l, ()), (n, ()), ()) = some ((szR n l.length, ()), ()) := by
  show zpz f l n = _
  unfold zpz
  have hm : maxLen ≤ 9223372036854775807 := by decide
  have e : w64 (n - (l.length : Int)) = n - l.length := by rw [w64_id] <;> omega
  simp only [zz_eq, e]
  unfold szR
  by_cases c : n - (l.length : Int) < 0 <;> simp [c]
theorem zPc (f : Nat) (l : List Knot) (n : Int) (h0 : 0 ≤ n) (h1 : n ≤ 1048576) (hl : l.length ≤ maxLen) : zlb f ((l, ()), (n, ()), ()) = some ((szR n l.length, ()), ()) := by
  show zpI f l n = _
  unfold zpI
  have hm : maxLen ≤ 9223372036854775807 := by decide
  have e : w64 (n - (l.length : Int)) = n - l.length := by rw [w64_id] <;> omega
  simp only [zz_eq, e]
  unfold szR
  by_cases c : n - (l.length : Int) < 0 <;> simp [c]
theorem zPd (f : Nat) (l : List Knot) (n : Int) (h0 : 0 ≤ n) (h1 : n ≤ 1048576) (hl : l.length ≤ maxLen) : zld f ((l, ()), (n, ()), ()) = some ((szR n l.length, ()), ()) := by
  show zpO f l n = _
  unfold zpO
  have hm : maxLen ≤ 9223372036854775807 := by decide
  have e : w64 (n - (l.length : Int)) = n - l.length := by rw [w64_id] <;> omega
  simp only [zz_eq, e]
  unfold szR
  by_cases c : n - (l.length : Int) < 0 <;> simp [c]
theorem szRows (f : Nat) (rs : List (List Int)) (n : Int) (h0 : 0 ≤ n) (h1 : n ≤ 1048576) (hl : rs.length ≤ maxLen) (hr : ∀ r ∈ rs, r.length ≤ maxLen) (hf : 1048576 < f) :
    Mes (zk9 f ((rs, ()), (n, ()), ())) n (rs.length ≤ 1048576 ∧ ∀ r ∈ rs, r.length ≤ 1048576) := by
  unfold Mes
  show ∃ v, zk8 f (iter (zk7 f) f) rs n = _ ∧ _
  unfold zk8
  have hm : maxLen ≤ 9223372036854775807 := by decide
  have e : w64 (n - (rs.length : Int)) = n - rs.length := by rw [w64_id] <;> omega
  simp only [zz_eq, e]
  by_cases c : n - (rs.length : Int) < 0
  · simp only [c, decide_true, cond_true]
    exact ⟨-1, rfl, by omega, fun h => by omega⟩
  simp only [c, decide_false, cond_false]
  have key : ∀ (l : List (List Int)) (left : Int), (∀ r ∈ l, r.length ≤ maxLen) → 0 ≤ left → left ≤ 1048576 →
      ∃ v : Int, goL (R := ((Int × Unit) × Unit)) (fun (row : List Int) k left => (zdh f ((row, ()), (left, ()), ())).bind fun y => cond (decide (y.fst.fst < (0 : Int))) (some (((-1 : Int), ()), ())) (k y.fst.fst)) (fun s => some ((s, ()), ())) l left = some ((v, ()), ()) ∧ v ≤ left ∧ (0 ≤ v → ∀ r ∈ l, r.length ≤ 1048576) := by
    intro l
    induction l with
    | nil => intro left _ _ _; exact ⟨left, rfl, by omega, fun _ r hr => by cases hr⟩
    | cons x l ih =>
      intro left hl a b
      obtain ⟨g1, g2, g3⟩ := szR_le (n := left) (l := (x.length : Int)) (by omega) a
      unfold goL
      simp only [zDD f x left a b (hl x (List.mem_cons_self ..)), Option.bind_some]
      by_cases c : szR left x.length < 0
      · simp only [c, decide_true, cond_true]
        exact ⟨-1, rfl, by omega, fun h => by omega⟩
      · simp only [c, decide_false, cond_false]
        obtain ⟨v, h1, h2, h3⟩ := ih (szR left x.length) (fun r hr => hl r (List.mem_cons_of_mem _ hr)) (by omega) (by omega)
        refine ⟨v, h1, by omega, fun h r hr => ?_⟩
        rcases List.mem_cons.mp hr with rfl | hr
        · have := g3 (by omega); omega
        · exact h3 h r hr
  obtain ⟨v, h2, h3, h4⟩ := key rs (n - rs.length) hr (by omega) (by omega)
  refine ⟨v, ?_, by omega, fun h => ⟨by omega, h4 h⟩⟩
  rw [← h2]
  refine zD (st := zk7 f) (enc := fun i left => ((i : Int), rs, left)) _ _ rs [] ?_ ?_ f _ (by omega)
  · intro i s g hi
    show zhr f g _ = _
    unfold zhr
    simp only [zz_eq, lt_cast hi, le_cast, decide_true, cond_true, Int.toNat_natCast, w64_up (show i < 4294967296 by omega)]
  · intro s g
    show zhr f g _ = _
    unfold zhr
    simp only [zz_eq, zb, decide_false, cond_false]
theorem zmr (f : Nat) (rs : List (List Int)) (ms : List Int) (ps : List Knot) (lost tall : Int) (ks : List Knot) (rall n : Int) (h0 : 0 ≤ n) (h1 : n ≤ 1048576) (hs : Short rs ms ps ks maxLen) (hf : 1048576 < f) :
    Mes (zbH f ((rs, ms, ps, lost, tall, ks, rall, ()), (n, ()), ())) n (Short rs ms ps ks 1048576) := by
  obtain ⟨s1, s2, s3, s4, s5⟩ := hs
  show Mes (zpU f rs ms ps lost tall ks rall n) _ _
  unfold zpU
  have a0 : zhs f ((rs, ()), (n, ()), ()) = zpC f rs n := rfl
  obtain ⟨v1, e1, u1, w1⟩ := szRows f rs n h0 h1 s1 s2 hf
  have a1 : zhs f ((rs, ()), (n, ()), ()) = some ((if v1 < 0 then -1 else v1, ()), ()) := by
    rw [a0]; unfold zpC
    rw [e1, Option.bind_some]
    by_cases c : v1 < 0 <;> simp only [c, decide_true, decide_false, cond_true, cond_false, if_true, if_false]
  rw [a1, Option.bind_some]
  by_cases c1 : v1 < 0
  · exact ⟨-1, by simp [c1], by omega, fun h => by omega⟩
  simp only [c1, if_false, decide_false, cond_false]
  have few : zla f ((ms, ()), (v1, ()), ()) = some ((szR v1 ms.length, ()), ()) := by
    show zpF f ms v1 = _
    unfold zpF
    rw [zDD f ms v1 (by omega) (by omega) s3, Option.bind_some]
    unfold szR
    by_cases c : v1 - (ms.length : Int) < 0 <;> simp [c]
  rw [few, Option.bind_some]
  obtain ⟨g1, g2, g3⟩ := szR_le (n := v1) (l := (ms.length : Int)) (by omega) (by omega)
  obtain ⟨v2, hv2⟩ : ∃ v, szR v1 ms.length = v := ⟨_, rfl⟩
  rw [hv2] at g1 g2 g3 ⊢
  by_cases c2 : v2 < 0
  · exact ⟨-1, by simp [c2], by omega, fun h => by omega⟩
  simp only [c2, decide_false, cond_false]
  have top : zlc f ((ps, lost, tall, ()), (v2, ()), ()) = some ((szR v2 ps.length, ()), ()) := by
    show zpL f ps lost tall v2 = _
    unfold zpL
    rw [zPc f ps v2 (by omega) (by omega) s4, Option.bind_some]
    unfold szR
    by_cases c : v2 - (ps.length : Int) < 0 <;> simp [c]
  rw [top, Option.bind_some]
  obtain ⟨g4, g5, g6⟩ := szR_le (n := v2) (l := (ps.length : Int)) (by omega) (by omega)
  obtain ⟨v3, hv3⟩ : ∃ v, szR v2 ps.length = v := ⟨_, rfl⟩
  rw [hv3] at g4 g5 g6 ⊢
  by_cases c3 : v3 < 0
  · exact ⟨-1, by simp [c3], by omega, fun h => by omega⟩
  simp only [c3, decide_false, cond_false]
  have rank : zle f ((ks, rall, ()), (v3, ()), ()) = some ((szR v3 ks.length, ()), ()) := by
    show zpR f ks rall v3 = _
    unfold zpR
    rw [zPd f ks v3 (by omega) (by omega) s5, Option.bind_some]
    unfold szR
    by_cases c : v3 - (ks.length : Int) < 0 <;> simp [c]
  rw [rank, Option.bind_some]
  obtain ⟨g7, g8, g9⟩ := szR_le (n := v3) (l := (ks.length : Int)) (by omega) (by omega)
  obtain ⟨v4, hv4⟩ : ∃ v, szR v3 ks.length = v := ⟨_, rfl⟩
  rw [hv4] at g7 g8 g9 ⊢
  by_cases c4 : v4 < 0
  · exact ⟨-1, by simp [c4], by omega, fun h => by omega⟩
  have b1 := w1 (by omega)
  have b2 := g3 (by omega)
  have b3 := g6 (by omega)
  have b4 := g9 (by omega)
  exact ⟨v4, by simp [c4], by omega, fun h => ⟨b1.1, b1.2, by omega, by omega, by omega⟩⟩
theorem zPe (f : Nat) (l : List (List Int)) (hl : l.length ≤ 1048576) (hr : ∀ r ∈ l, r.length ≤ 1048576) (hf : 1048576 < f) : zlt f ((l, ()), ()) = some ((l, ()), ()) := by
  show zls f (iter (zlr f) f) l = _
  unfold zls
  have h1 := lim_of hl
  simp only [zz_eq, Int.toNat_natCast, Int.natCast_nonneg, Int.le_refl, h1, decide_true, cond_true]
  refine (zhY (st := zlr f) (enc := fun i out => ((i : Int), l, out)) (fun out => some ((out, ()), ())) l [] id ?_ ?_ f [] (by omega)).trans (by rw [List.map_id])
  · intro i out g hi ho
    show zhH f g _ = _
    unfold zhH
    have ho' : i < out.length := by omega
    have hx : (l.getD i []).length ≤ 1048576 := hr _ (by rw [List.getD_eq_getElem?_getD, List.getElem?_eq_getElem hi]; exact List.getElem_mem hi)
    simp only [zz_eq, lt_cast hi, lt_cast ho', ho', le_cast, decide_true, cond_true, Int.toNat_natCast, w64_up (show i < 4294967296 by omega), zbQ f _ hx (by omega), Option.bind_some]
    rfl
  · intro s g
    show zhH f g _ = _
    unfold zhH
    simp only [zz_eq, zb, decide_false, cond_false]
theorem zh8 (f : Nat) (l : List Knot) (hl : l.length ≤ 1048576) (hf : l.length < f) : za0 f ((l, ()), ()) = some ((l, ()), ()) := by
  show zlj f (iter (zli f) f) l = _
  unfold zlj
  have h1 := lim_of hl
  simp only [zz_eq, Int.toNat_natCast, Int.natCast_nonneg, Int.le_refl, h1, decide_true, cond_true]
  refine (zhY (st := zli f) (enc := fun i out => ((i : Int), l, out)) (fun out => some ((out, ()), ())) l (0, 0, ()) id ?_ ?_ f (0, 0, ()) hf).trans (by rw [List.map_id])
  · intro i out g hi ho
    show zhx f g _ = _
    unfold zhx
    have ho' : i < out.length := by omega
    have ek : ∀ x : Knot, zlg f ((x.1, x.2.1, ()), ()) = some ((x.1, x.2.1, ()), ()) := fun x => rfl
    simp only [zz_eq, lt_cast hi, lt_cast ho', ho', le_cast, decide_true, cond_true, Int.toNat_natCast, w64_up (show i < 4294967296 by omega), ek, Option.bind_some]
    rfl
  · intro s g
    show zhx f g _ = _
    unfold zhx
    simp only [zz_eq, zb, decide_false, cond_false]
theorem zh9 (f : Nat) (l : List Knot) (hl : l.length ≤ 1048576) (hf : l.length < f) : za1 f ((l, ()), ()) = some ((l, ()), ()) := by
  show zlo f (iter (zln f) f) l = _
  unfold zlo
  have h1 := lim_of hl
  simp only [zz_eq, Int.toNat_natCast, Int.natCast_nonneg, Int.le_refl, h1, decide_true, cond_true]
  refine (zhY (st := zln f) (enc := fun i out => ((i : Int), l, out)) (fun out => some ((out, ()), ())) l (0, 0, ()) id ?_ ?_ f (0, 0, ()) hf).trans (by rw [List.map_id])
  · intro i out g hi ho
    show zhC f g _ = _
    unfold zhC
    have ho' : i < out.length := by omega
    have ek : ∀ x : Knot, zll f ((x.1, x.2.1, ()), ()) = some ((x.1, x.2.1, ()), ()) := fun x => rfl
    simp only [zz_eq, lt_cast hi, lt_cast ho', ho', le_cast, decide_true, cond_true, Int.toNat_natCast, w64_up (show i < 4294967296 by omega), ek, Option.bind_some]
    rfl
  · intro s g
    show zhC f g _ = _
    unfold zhC
    simp only [zz_eq, zb, decide_false, cond_false]
theorem zms (f : Nat) (rs : List (List Int)) (ms : List Int) (ps : List Knot) (lost tall : Int) (ks : List Knot) (rall : Int) (hs : Short rs ms ps ks 1048576) (hf : 1048576 < f) :
    zm f ((rs, ms, ps, lost, tall, ks, rall, ()), ()) = some ((rs, ms, ps, lost, tall, ks, rall, ()), ()) := by
  obtain ⟨s1, s2, s3, s4, s5⟩ := hs
  show zqe f rs ms ps lost tall ks rall = _
  unfold zqe
  have e1 : zlu f ((rs, ()), ()) = some ((rs, ()), ()) := by
    show zp2 f rs = _
    unfold zp2; rw [zPe f rs s1 s2 hf]; rfl
  have e2 : zlv f ((ms, ()), ()) = some ((ms, ()), ()) := by
    show zp5 f ms = _
    unfold zp5; rw [zbQ f ms s3 (by omega)]; rfl
  have e3 : zlw f ((ps, lost, tall, ()), ()) = some ((ps, lost, tall, ()), ()) := by
    show zp8 f ps lost tall = _
    unfold zp8; rw [zh8 f ps s4 (by omega)]; rfl
  have e4 : zlx f ((ks, rall, ()), ()) = some ((ks, rall, ()), ()) := by
    show zqb f ks rall = _
    unfold zqb; rw [zh9 f ks s5 (by omega)]; rfl
  rw [e1, Option.bind_some, e2, Option.bind_some, e3, Option.bind_some, e4]; rfl
theorem zmt (f : Nat) (l : List (List Int)) (hl : l.length ≤ 1048576) (hr : ∀ r ∈ l, r.length ≤ 1048576) (hf : 1048576 < f) : zaz f (l, ()) = some l := by
  unfold zaz
  rw [if_pos ⟨hl, fun r h => zbQ f r (hr r h) (by have := hr r h; omega)⟩]
theorem zDE (f : Nat) (hf : 1048576 < f) : ∀ (rs : List (List Int)) (k : Int), (∀ r ∈ rs, r.length ≤ 1048576) → 0 ≤ k → k + 1048576 * rs.length ≤ 100000000000000 → ∃ zs k', markRows f rs k = some (zs, k') ∧ k ≤ k' ∧ k' ≤ k + 1048576 * rs.length
  | [], k, _, h0, h1 => ⟨[], k, rfl, by omega, by simp⟩
  | x :: rs, k, hr, h0, h1 => by
    simp only [List.length_cons] at h1
    have hx := hr x (List.mem_cons_self ..)
    have e := zaH f x k h0 (by omega) hx (by omega)
    obtain ⟨zs, k', h2, h3, h4⟩ := zDE f hf rs (k + x.length) (fun r h => hr r (List.mem_cons_of_mem _ h)) (by omega) (by omega)
    refine ⟨mkN x.length k :: zs, k', ?_, by omega, by simp only [List.length_cons]; omega⟩
    simp only [markRows, e, Option.bind_some, h2, Option.map_some]
theorem zmu (f : Nat) (hf : 1048576 < f) (rs : List (List Int)) (k : Int) (hl : rs.length ≤ 1048576) (hr : ∀ r ∈ rs, r.length ≤ 1048576) (h0 : 0 ≤ k) (h1 : k ≤ 10000000000000) : ∃ zs k', zab f (rs, k) = some (zs, k') ∧ k ≤ k' ∧ k' ≤ k + 1099511627776 := by
  obtain ⟨zs, k', h2, h3, h4⟩ := zDE f hf rs k hr h0 (by omega)
  refine ⟨zs, k', ?_, h3, by omega⟩
  unfold zab
  rw [if_pos hl]; exact h2
theorem Form.small {s : SumD} (h : Form s) : SmallS s 129 := by
  obtain ⟨a, b, c, e, ha, hb, hc, -, -⟩ := zaG h.rough
  have la := row_len ha; have lb := row_len hb; have lc := row_len hc
  have h2 := h.few
  have h3 := four h.top
  have h4 := (zh5 h.rank).len
  unfold fewB at h2
  simp only [Bool.and_eq_true, decide_eq_true_eq] at h2
  refine ⟨by rw [e]; simp, fun r hr => ?_, by omega, by omega, by omega⟩
  rw [e] at hr
  simp only [List.mem_cons, List.not_mem_nil, or_false] at hr
  rcases hr with rfl | rfl | rfl <;> omega
theorem zdB {s : SumD} {n : Nat} (h : Short s.1 s.2.1 s.2.2.1 s.2.2.2.2.2.1 n) : SmallS s n := ⟨h.1, h.2.1, h.2.2.1, h.2.2.2.1, h.2.2.2.2⟩
theorem zDF (f : Nat) (s u : SumD) (hs : SmallS s 1048576) (hu : SmallS u 1048576) (hf : 3000000 < f) : zcV f (s, u, ()) = some ((sumJoin s u).1, ((sumJoin s u).2, ()), ()) := by
  have e0 := zmg f s hs (by omega) (by omega) (by omega)
  have e1 := zmg f u hu (by omega) (by omega) (by omega)
  cases hB : sumBD s
  · rw [hB] at e0
    have ej : sumJoin s u = (noSum, false) := by unfold sumJoin; rw [hB]; rfl
    obtain ⟨rs, ms, ps, lost, tall, ks, rall, ⟨⟩⟩ := s
    obtain ⟨rs', ms', ps', lost', tall', ks', rall', ⟨⟩⟩ := u
    show zbz f rs ms ps lost tall ks rall rs' ms' ps' lost' tall' ks' rall' = _
    unfold zbz
    rw [e0, ej]; rfl
  · cases hB' : sumBD u
    · rw [hB] at e0; rw [hB'] at e1
      have ej : sumJoin s u = (noSum, false) := by unfold sumJoin; rw [hB, hB']; rfl
      obtain ⟨rs, ms, ps, lost, tall, ks, rall, ⟨⟩⟩ := s
      obtain ⟨rs', ms', ps', lost', tall', ks', rall', ⟨⟩⟩ := u
      show zbz f rs ms ps lost tall ks rall rs' ms' ps' lost' tall' ks' rall' = _
      unfold zbz
      rw [e0, Option.bind_some, e1, ej]; rfl
    · exact zOG f s u (zae.1 hB).small (zae.1 hB').small (by omega) (by omega) (by omega)
theorem roughJoinX (f : Nat) (rs ss : List (List Int)) : zlz f ((rs, ()), (ss, ()), ()) = (zf5 f ((rs, ()), (ss, ()), ())).bind convR := by
  show zqg f rs ss = (zf4 f rs ss).bind convR
  unfold zqg zf4
  simp only [Option.bind_assoc, zH, Option.bind_some, convR, cond_true, cond_false, zqT]
theorem topJoinX (f : Nat) (x : (LP × (Int × (Int × Unit))) × ((LP × (Int × (Int × Unit))) × Unit)) : zlC f x = zfS f x := by
  obtain ⟨⟨x0, x1, x2, ⟨⟩⟩, ⟨x3, x4, x5, ⟨⟩⟩, ⟨⟩⟩ := x
  show zqp f x0 x1 x2 x3 x4 x5 = zfR f x0 x1 x2 x3 x4 x5
  unfold zqp zfR
  simp only [topSumX]
theorem zPf (f : Nat) (hf : 1000 < f) (s u : SumD) (ok : (sumJoin s u).2 = true) : zhI f (s, u, ()) = some ((sumJoin s u).1, true, ()) := by
  obtain ⟨h, h', ha⟩ := zmq ok
  have e0 := zmh f s h.small (by omega) (by omega) (by omega)
  have e1 := zmh f u h'.small (by omega) (by omega) (by omega)
  have hB := zae.2 h; have hB' := zae.2 h'
  rw [hB] at e0; rw [hB'] at e1
  obtain ⟨rs, ms, ps, lost, tall, ks, rall, ⟨⟩⟩ := s
  obtain ⟨rs', ms', ps', lost', tall', ks', rall', ⟨⟩⟩ := u
  have hr := h.all_rng
  have hr' := h'.all_rng
  have kl := (zh5 h.rank).len
  have kl' := (zh5 h'.rank).len
  have h1 := h.rough; have h2 := h.few; have h3 := h.top; have h4 := h.rank; have h5 := h.all; have h6 := h.same
  have g1 := h'.rough; have g2 := h'.few; have g3 := h'.top; have g4 := h'.rank; have g5 := h'.all; have g6 := h'.same
  simp only at h1 h2 h3 h4 h5 h6 hr kl g1 g2 g3 g4 g5 g6 hr' kl' ha
  have ew : w64 (tall + tall') = tall + tall' := by rw [w64_id] <;> omega
  have r := zDd h1 g1 (by rw [h5, g5]; exact ha)
  have m := zDu h2 g2
  have p := zDk h3 g3 ha
  have k := zDt h4 g4 (by rw [← h6, ← g6]; exact ha)
  have w : ∀ (rs ms ps lost tall ks rall), zX f ((rs, ms, ps, lost, tall, ks, rall, ()), ()) = some ((((rs, ()), ()), ((ms, ()), ()), ((ps, lost, tall, ()), ()), ((ks, rall, ()), ()), ()), ()) := fun _ _ _ _ _ _ _ => rfl
  obtain ⟨a, b, c, ea, -⟩ := zaG r.2.1
  have j1 : zlA f (((rs, ()), ()), ((rs', ()), ()), ()) = some ((((roughJoin rs rs').1, ()), ()), true, ()) := by
    show zqj f rs rs' = _
    unfold zqj
    rw [roughJoinX, zCW f rs rs' (by omega), Option.bind_some]
    unfold convR
    rw [r.1, cond_true, Option.bind_some, ea]; rfl
  have j2 : zlB f (((ms, ()), ()), ((ms', ()), ()), ()) = some ((((fewJoin ms ms').1, ()), ()), (fewJoin ms ms').2, ()) := by
    show zqm f ms ms' = _
    unfold zqm
    rw [zOL f ms ms' (by omega)]; rfl
  have j3 : zlD f (((ps, lost, tall, ()), ()), ((ps', lost', tall', ()), ()), ()) = some (((topJoin ps lost tall ps' lost' tall').1, ()), (topJoin ps lost tall ps' lost' tall').2, ()) := by
    show zqs f ps lost tall ps' lost' tall' = _
    unfold zqs
    rw [topJoinX, zOU f hf ps lost tall ps' lost' tall']; rfl
  have j4 : zlE f (((ks, rall, ()), ()), ((ks', rall', ()), ()), ()) = some (((rankJoin ks rall ks' rall').1, ()), (rankJoin ks rall ks' rall').2, ()) := by
    show zqv f ks rall ks' rall' = _
    unfold zqv
    rw [zO2 f ks ks' rall rall' (by omega) (by omega) (by omega) (by omega) (by omega)]; rfl
  show zqy f rs ms ps lost tall ks rall rs' ms' ps' lost' tall' ks' rall' = _
  unfold zqy sumJoin
  rw [e0, Option.bind_some]
  simp only [Bool.not_true, cond_false, e1, Option.bind_some, w, j1, j2, m.1, j3, p.1, j4, k.1, hB, hB', ew, ha, decide_true, Bool.and_self, cond_true, ea]
  rfl
theorem zPg (f : Nat) (hf : 1000 < f) (s u : SumD) {n : Nat} (hs : SmallS s n) (hu : SmallS u n) (hn : n < 4294967296) (hnf : n < f) (no : (sumJoin s u).2 = false) : zhJ f (s, u, ()) = some (((0 : Int), (0 : Int), (0 : Int), ()), false, ()) := by
  have e0 := zmh f s hs (by omega) (by omega) (by omega)
  have e1 := zmh f u hu (by omega) (by omega) (by omega)
  cases hB : sumBD s
  · rw [hB] at e0
    obtain ⟨rs, ms, ps, lost, tall, ks, rall, ⟨⟩⟩ := s
    obtain ⟨rs', ms', ps', lost', tall', ks', rall', ⟨⟩⟩ := u
    show zbL f rs ms ps lost tall ks rall rs' ms' ps' lost' tall' ks' rall' = _
    unfold zbL
    simp only [e0, Option.bind_some, Bool.not_false, cond_true]
  cases hB' : sumBD u
  · rw [hB] at e0; rw [hB'] at e1
    obtain ⟨rs, ms, ps, lost, tall, ks, rall, ⟨⟩⟩ := s
    obtain ⟨rs', ms', ps', lost', tall', ks', rall', ⟨⟩⟩ := u
    show zbL f rs ms ps lost tall ks rall rs' ms' ps' lost' tall' ks' rall' = _
    unfold zbL
    rw [e0, Option.bind_some]
    simp only [Bool.not_true, cond_false, e1, Option.bind_some, Bool.not_false, cond_true]
  have h := zae.1 hB
  have h' := zae.1 hB'
  have ha : ¬ allOf s + allOf u ≤ 2000 := fun ha => by rw [(zDv h h' ha).1] at no; cases no
  rw [hB] at e0; rw [hB'] at e1
  obtain ⟨rs, ms, ps, lost, tall, ks, rall, ⟨⟩⟩ := s
  obtain ⟨rs', ms', ps', lost', tall', ks', rall', ⟨⟩⟩ := u
  have hr := h.all_rng
  have hr' := h'.all_rng
  have h1 := h.rough; have h5 := h.all
  have g1 := h'.rough; have g5 := h'.all
  simp only at h1 h5 hr g1 g5 hr' ha
  have w : ∀ (rs ms ps lost tall ks rall), zX f ((rs, ms, ps, lost, tall, ks, rall, ()), ()) = some ((((rs, ()), ()), ((ms, ()), ()), ((ps, lost, tall, ()), ()), ((ks, rall, ()), ()), ()), ()) := fun _ _ _ _ _ _ _ => rfl
  have j1 : zj0 f (((rs, ()), ()), ((rs', ()), ()), ()) = some ((((roughJoin rs rs').1, ()), ()), (roughJoin rs rs').2, ()) := by
    show zor f rs rs' = _
    unfold zor
    rw [zCW f rs rs' (by omega)]; rfl
  have this : (roughJoin rs rs').2 = false := by
    have e := allR_eq h1
    have e' := allR_eq g1
    have ew2 : w64 (isum (rs.getD 0 []) + isum (rs'.getD 0 [])) = tall + tall' := by rw [w64_id] <;> omega
    unfold roughJoin; rw [ew2]; simp [ha]
  show zbL f rs ms ps lost tall ks rall rs' ms' ps' lost' tall' ks' rall' = _
  unfold zbL
  rw [e0, Option.bind_some]
  simp only [Bool.not_true, cond_false, e1, Option.bind_some, w, j1, this, Bool.not_false, cond_true]
end Go.Proofs.YtdgdoeknpakmlaaGreat.Den
namespace Go.Proofs.YtdgdoeknpakmlaaGreat.Den
open Go
theorem zPh (f : Nat) (hf : 1048576 < f) (s : SumD) (h : SmallS s 129) :
    zl f ((s.1, s.2.1, s.2.2.1, s.2.2.2.1, s.2.2.2.2.1, s.2.2.2.2.2.1, s.2.2.2.2.2.2.1, ()), (s.1, s.2.1, s.2.2.1, s.2.2.2.1, s.2.2.2.2.1, s.2.2.2.2.2.1, s.2.2.2.2.2.2.1, ()), ()) = some ((true, ()), ()) := by
  have h1 := h.rows; have h2 := h.row; have h3 := h.marks; have h4 := h.pairs; have h5 := h.knots
  exact zdA f s.1 s.2.1 s.2.2.1 s.2.2.2.1 s.2.2.2.2.1 s.2.2.2.2.2.1 s.2.2.2.2.2.2.1 ⟨by omega, fun r hr => by have := h2 r hr; omega, by omega, by omega, by omega⟩ hf
theorem zPi {s u : SumD} (no : (sumJoin s u).2 = false) : (sumJoin s u).1 = noSum := by
  unfold sumJoin at no ⊢
  cases h : (sumBD s && (sumBD u && decide (w64 (s.2.2.2.2.1 + u.2.2.2.2.1) ≤ 2000)))
  · rfl
  · rw [h] at no; cases no
theorem zPj (f : Nat) (hf : 4000000 < f) (rs : List (List Int)) (ms : List Int) (ps : List Knot) (lost tall : Int) (ks : List Knot) (rall : Int) (rs' : List (List Int)) (ms' : List Int) (ps' : List Knot) (lost' tall' : Int) (ks' : List Knot) (rall' : Int) (hs : Short rs ms ps ks maxLen) (hs' : Short rs' ms' ps' ks' maxLen) (ok : (sumJoin (rs, ms, ps, lost, tall, ks, rall, ()) (rs', ms', ps', lost', tall', ks', rall', ())).2 = true) :
    zlG f ((rs, ms, ps, lost, tall, ks, rall, ()), (rs', ms', ps', lost', tall', ks', rall', ()), ()) = some ((true, ()), ()) := by
  show zqC f rs ms ps lost tall ks rall rs' ms' ps' lost' tall' ks' rall' = _
  unfold zqC
  obtain ⟨v, ev, lv, hv⟩ := zmr f rs ms ps lost tall ks rall 1048576 (by omega) (by omega) hs (by omega)
  rw [ev, Option.bind_some]
  by_cases hc : v < 0
  · simp only [hc, decide_true, cond_true]
  simp only [hc, decide_false, cond_false]
  obtain ⟨v', ev', -, hv'⟩ := zmr f rs' ms' ps' lost' tall' ks' rall' v (by omega) (by omega) hs' (by omega)
  rw [ev', Option.bind_some]
  by_cases hcc : v' < 0
  · simp only [hcc, decide_true, cond_true]
  have S0 := hv (by omega)
  have S0' := hv' (by omega)
  have e0 := zms f rs ms ps lost tall ks rall S0 (by omega)
  have e0' := zms f rs' ms' ps' lost' tall' ks' rall' S0' (by omega)
  have e1 := zDF f (rs, ms, ps, lost, tall, ks, rall, ()) (rs', ms', ps', lost', tall', ks', rall', ()) (zdB S0) (zdB S0') (by omega)
  have e2 := zPf f (by omega) (rs, ms, ps, lost, tall, ks, rall, ()) (rs', ms', ps', lost', tall', ks', rall', ()) ok
  have e3 := zdA f rs ms ps lost tall ks rall S0 (by omega)
  have e3' := zdA f rs' ms' ps' lost' tall' ks' rall' S0' (by omega)
  have hF := (zDv (zmq ok).1 (zmq ok).2.1 (zmq ok).2.2).2.1
  obtain ⟨s1, s2, s3, s4, s5⟩ := S0
  have t1 := zmt f rs s1 s2 (by omega)
  have t2 := zbQ f ms s3 (by omega)
  have t3 := zh8 f ps s4 (by omega)
  have t4 := zh9 f ks s5 (by omega)
  obtain ⟨zs, k1, u1, a1, b1⟩ := zmu f (by omega) rs 1 s1 s2 (by omega) (by omega)
  have u2 := zaH f ms k1 (by omega) (by omega) s3 (by omega)
  have u3 := zh7 f ps (k1 + ms.length) (by omega) (by omega) s4 (by omega)
  have u4 := zh6 f ks (k1 + ms.length + 2 * ps.length) (by omega) (by omega) s5 (by omega)
  obtain ⟨s1', s2', s3', s4', s5'⟩ := S0'
  have t1' := zmt f rs' s1' s2' (by omega)
  have t2' := zbQ f ms' s3' (by omega)
  have t3' := zh8 f ps' s4' (by omega)
  have t4' := zh9 f ks' s5' (by omega)
  obtain ⟨zs', k2, u1', a1', b1'⟩ := zmu f (by omega) rs' (k1 + ms.length + 2 * ps.length + 2 * ks.length) s1' s2' (by omega) (by omega)
  have u2' := zaH f ms' k2 (by omega) (by omega) s3' (by omega)
  have u3' := zh7 f ps' (k2 + ms'.length) (by omega) (by omega) s4' (by omega)
  have u4' := zh6 f ks' (k2 + ms'.length + 2 * ps'.length) (by omega) (by omega) s5' (by omega)
  have n0 : ¬ k2 + (ms'.length : Int) + 2 * ps'.length + 2 * ks'.length < 0 := by omega
  rw [ok] at e1
  have hsm := hF.small
  have e5 := zPh f (by omega) _ hsm
  generalize (sumJoin (rs, ms, ps, lost, tall, ks, rall, ()) (rs', ms', ps', lost', tall', ks', rall', ())).1 = S at hF hsm e1 e2 e5
  obtain ⟨Rs, Ms, Ps, Lost, Tall, Ks, Rall, ⟨⟩⟩ := S
  obtain ⟨a, b, c, er, ha, hb, hc', -, -⟩ := zaG hF.rough
  have er : Rs = [a, b, c] := er
  subst er
  have la := row_len ha; have lb := row_len hb; have lc := row_len hc'
  have hms : Ms.length ≤ 129 := hsm.marks
  have hps : Ps.length ≤ 129 := hsm.pairs
  have hks : Ks.length ≤ 129 := hsm.knots
  have m1 := zaH f a 1 (by omega) (by omega) (by omega) (by omega)
  have m2 := zaH f b (1 + a.length) (by omega) (by omega) (by omega) (by omega)
  have m3 := zaH f c (1 + a.length + b.length) (by omega) (by omega) (by omega) (by omega)
  have m4 := zaH f Ms (1 + a.length + b.length + c.length) (by omega) (by omega) (by omega) (by omega)
  have m5 := zh7 f Ps (1 + a.length + b.length + c.length + Ms.length) (by omega) (by omega) (by omega) (by omega)
  have m6 := zh6 f Ks (1 + a.length + b.length + c.length + Ms.length + 2 * Ps.length) (by omega) (by omega) (by omega) (by omega)
  have m7 := zPb f a.length b.length c.length Ms.length Ps.length Ks.length Lost Tall Rall (by omega) (by omega) (by omega) (by omega) (by omega) (by omega) (by omega)
  have n2 : ¬ (1 : Int) + a.length + b.length + c.length + Ms.length + 2 * Ps.length + 2 * Ks.length < 0 := by omega
  have d0 : ([a, b, c] : List (List Int)).getD 0 [] = a := rfl
  have d1 : ([a, b, c] : List (List Int)).getD 1 [] = b := rfl
  have d2 : ([a, b, c] : List (List Int)).getD 2 [] = c := rfl
  simp only at e5
  simp only [hcc, decide_false, cond_false, e0, e0', e1, t1, t2, t3, t4, t1', t2', t3', t4', List.map_id', e2, e3', u1', u2', u3', u4', Option.bind_some, d0, d1, d2, e5, e3, u1, u2, u3, u4, n0, m1, m2, m3, m4, m5, m6, m7, n2, Bool.not_true, beq_self_eq_true, cond_true, bne_self_eq_false, Bool.false_beq]
theorem zPk (f : Nat) (hf : 4000000 < f) (rs : List (List Int)) (ms : List Int) (ps : List Knot) (lost tall : Int) (ks : List Knot) (rall : Int) (rs' : List (List Int)) (ms' : List Int) (ps' : List Knot) (lost' tall' : Int) (ks' : List Knot) (rall' : Int) (hs : Short rs ms ps ks maxLen) (hs' : Short rs' ms' ps' ks' maxLen) (no : (sumJoin (rs, ms, ps, lost, tall, ks, rall, ()) (rs', ms', ps', lost', tall', ks', rall', ())).2 = false) :
    zlI f ((rs, ms, ps, lost, tall, ks, rall, ()), (rs', ms', ps', lost', tall', ks', rall', ()), ()) = some ((true, ()), ()) := by
  show zqD f rs ms ps lost tall ks rall rs' ms' ps' lost' tall' ks' rall' = _
  unfold zqD
  obtain ⟨v, ev, lv, hv⟩ := zmr f rs ms ps lost tall ks rall 1048576 (by omega) (by omega) hs (by omega)
  rw [ev, Option.bind_some]
  by_cases hc : v < 0
  · simp only [hc, decide_true, cond_true]
  simp only [hc, decide_false, cond_false]
  obtain ⟨v', ev', -, hv'⟩ := zmr f rs' ms' ps' lost' tall' ks' rall' v (by omega) (by omega) hs' (by omega)
  rw [ev', Option.bind_some]
  by_cases hcc : v' < 0
  · simp only [hcc, decide_true, cond_true]
  have S0 := hv (by omega)
  have S0' := hv' (by omega)
  have e0 := zms f rs ms ps lost tall ks rall S0 (by omega)
  have e0' := zms f rs' ms' ps' lost' tall' ks' rall' S0' (by omega)
  have e1 := zDF f (rs, ms, ps, lost, tall, ks, rall, ()) (rs', ms', ps', lost', tall', ks', rall', ()) (zdB S0) (zdB S0') (by omega)
  have e2 := zPg f (by omega) (rs, ms, ps, lost, tall, ks, rall, ()) (rs', ms', ps', lost', tall', ks', rall', ()) (zdB S0) (zdB S0') (by omega) (by omega) no
  have e3 := zdA f rs ms ps lost tall ks rall S0 (by omega)
  have e3' := zdA f rs' ms' ps' lost' tall' ks' rall' S0' (by omega)
  have hn : (sumJoin (rs, ms, ps, lost, tall, ks, rall, ()) (rs', ms', ps', lost', tall', ks', rall', ())).1 = noSum := zPi no
  obtain ⟨s1, s2, s3, s4, s5⟩ := S0
  have t1 := zmt f rs s1 s2 (by omega)
  have t2 := zbQ f ms s3 (by omega)
  have t3 := zh8 f ps s4 (by omega)
  have t4 := zh9 f ks s5 (by omega)
  obtain ⟨zs, k1, u1, a1, b1⟩ := zmu f (by omega) rs 1 s1 s2 (by omega) (by omega)
  have u2 := zaH f ms k1 (by omega) (by omega) s3 (by omega)
  have u3 := zh7 f ps (k1 + ms.length) (by omega) (by omega) s4 (by omega)
  have u4 := zh6 f ks (k1 + ms.length + 2 * ps.length) (by omega) (by omega) s5 (by omega)
  obtain ⟨s1', s2', s3', s4', s5'⟩ := S0'
  have t1' := zmt f rs' s1' s2' (by omega)
  have t2' := zbQ f ms' s3' (by omega)
  have t3' := zh8 f ps' s4' (by omega)
  have t4' := zh9 f ks' s5' (by omega)
  obtain ⟨zs', k2, u1', a1', b1'⟩ := zmu f (by omega) rs' (k1 + ms.length + 2 * ps.length + 2 * ks.length) s1' s2' (by omega) (by omega)
  have u2' := zaH f ms' k2 (by omega) (by omega) s3' (by omega)
  have u3' := zh7 f ps' (k2 + ms'.length) (by omega) (by omega) s4' (by omega)
  have u4' := zh6 f ks' (k2 + ms'.length + 2 * ps'.length) (by omega) (by omega) s5' (by omega)
  have n0 : ¬ k2 + (ms'.length : Int) + 2 * ps'.length + 2 * ks'.length < 0 := by omega
  rw [no, hn] at e1
  have e5 : zl f (([], [], [], (0 : Int), (0 : Int), [], (0 : Int), ()), ([], [], [], (0 : Int), (0 : Int), [], (0 : Int), ()), ()) = some ((true, ()), ()) :=
    zdA f [] [] [] 0 0 [] 0 ⟨by simp, by simp, by simp, by simp, by simp⟩ (by omega)
  have m1 : zkA f ((1 : Int), ()) = some ((1 : Int), ()) := by obtain ⟨g, rfl⟩ : ∃ g, f = g + 1 := ⟨f - 1, by omega⟩; rfl
  have m2 : zkF f ((1 : Int), ()) = some ((1 : Int), ()) := by obtain ⟨g, rfl⟩ : ∃ g, f = g + 1 := ⟨f - 1, by omega⟩; rfl
  have m3 : zkK f ((1 : Int), ()) = some ((1 : Int), ()) := by obtain ⟨g, rfl⟩ : ∃ g, f = g + 1 := ⟨f - 1, by omega⟩; rfl
  have m7 : zaZ f (([], [], [], (0 : Int), (0 : Int), [], (0 : Int), ()), ((1 : Int), ()), ()) = some (((1 : Int), ()), ()) := by obtain ⟨g, rfl⟩ : ∃ g, f = g + 1 := ⟨f - 1, by omega⟩; rfl
  have n2 : ¬ (1 : Int) < 0 := by omega
  unfold noSum at e1
  simp only [hcc, decide_false, cond_false, e0, e0', e1, t1, t2, t3, t4, t1', t2', t3', t4', List.map_id', e2, e3', u1', u2', u3', u4', Option.bind_some, e5, e3, u1, u2, u3, u4, n0, m1, m2, m3, m7, n2, Bool.not_true, Bool.not_false, beq_self_eq_true, cond_true, bne_self_eq_false, Bool.true_beq]
theorem pureExactSumJoin (a b : CsT [(Kd.list (.list (.int .i64)), false), (Kd.list (.int .i64), false), (Kd.list KP, false), (.int .i64, false), (.int .i64, false), (Kd.list KP, false), (.int .i64, false)])
    (ha : wfCs [(Kd.list (.list (.int .i64)), false), (Kd.list (.int .i64), false), (Kd.list KP, false), (.int .i64, false), (.int .i64, false), (Kd.list KP, false), (.int .i64, false)] a) (hb : wfCs [(Kd.list (.list (.int .i64)), false), (Kd.list (.int .i64), false), (Kd.list KP, false), (.int .i64, false), (.int .i64, false), (Kd.list KP, false), (.int .i64, false)] b) :
    (∃ fuel, zlG fuel (a, b, ()) = some ((true, ()), ())) ∨ ∃ fuel, zlI fuel (a, b, ()) = some ((true, ()), ()) := by
  obtain ⟨rs, ms, ps, lost, tall, ks, rall, ⟨⟩⟩ := a
  obtain ⟨rs', ms', ps', lost', tall', ks', rall', ⟨⟩⟩ := b
  simp only [wfCs, wfD] at ha hb
  obtain ⟨⟨h1, h2⟩, ⟨h3, -⟩, ⟨h4, -⟩, -, -, ⟨h5, -⟩, -⟩ := ha
  obtain ⟨⟨g1, g2⟩, ⟨g3, -⟩, ⟨g4, -⟩, -, -, ⟨g5, -⟩, -⟩ := hb
  have hs : Short rs ms ps ks maxLen := ⟨h1, fun r hr => (h2 r hr).1, h3, h4, h5⟩
  have hs' : Short rs' ms' ps' ks' maxLen := ⟨g1, fun r hr => (g2 r hr).1, g3, g4, g5⟩
  cases h : (sumJoin (rs, ms, ps, lost, tall, ks, rall, ()) (rs', ms', ps', lost', tall', ks', rall', ())).2 with
  | true => exact .inl ⟨4000001, zPj 4000001 (by omega) rs ms ps lost tall ks rall rs' ms' ps' lost' tall' ks' rall' hs hs' h⟩
  | false => exact .inr ⟨4000001, zPk 4000001 (by omega) rs ms ps lost tall ks rall rs' ms' ps' lost' tall' ks' rall' hs hs' h⟩
end Go.Proofs.YtdgdoeknpakmlaaGreat.Den
