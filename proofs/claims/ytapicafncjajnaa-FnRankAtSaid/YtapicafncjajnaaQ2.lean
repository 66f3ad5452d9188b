/- How many are up to a thing: both readings of RankBelow say the same plain thing, and more are up to a greater one. -/
import Derived.Test.YtapicafncjajnaaQ1
namespace Go.Proofs.Ytapicafncjajnaa.Den
open Go
set_option linter.unusedVariables false
set_option linter.unusedSimpArgs false

def spanG : Nat → Int → Int → Int × Int
  | 0, l, h => (l - 64, h - 64)
  | n + 1, l, h => if l < 64 then spanG n (2 * l) (2 * h + 1) else (l - 64, h - 64)
def span (a : Int) : Int × Int := spanG 63 a a

theorem or_one (x : Nat) (h : x < 4611686018427387904) : (BitVec.ofInt 64 (2 * (x : Int)) ||| BitVec.ofInt 64 1).toNat = 2 * x + 1 := by
  rw [BitVec.toNat_or, BitVec.toNat_ofInt, BitVec.toNat_ofInt]
  have e1 : ((2 * (x : Int)) % ((2 ^ 64 : Nat) : Int)).toNat = x <<< 1 := by
    rw [Nat.shiftLeft_eq]; omega
  have e2 : ((1 : Int) % ((2 ^ 64 : Nat) : Int)).toNat = 1 := by decide
  rw [e1, e2, ← Nat.shiftLeft_add_eq_or_of_lt (by omega) x, Nat.shiftLeft_eq]
  omega

theorem shl_one (x : Int) (h0 : 0 ≤ x) (h : x < 4611686018427387904) : w64 (x * 2 ^ min (Int.toNat 1) (IntKind.bits IntKind.i64)) = 2 * x := by
  have e : (2 : Int) ^ min (Int.toNat 1) (IntKind.bits IntKind.i64) = 2 := by decide
  rw [e, w64_id] <;> omega

theorem specSpan_loop (f : Nat) : ∀ (n : Nat) (l h : Int) (fuel : Nat), 1 ≤ l → l ≤ 127 → l ≤ h → h + 1 ≤ 2 * l → 64 ≤ l + n → n < fuel →
    iter (spec_l4Span_st0 f) fuel (l, h) = some (((spanG n l h).1, ()), ((spanG n l h).2, ()), ())
  | n, l, h, 0, h1, h2, h3, h4, h5, h6 => by omega
  | n, l, h, fuel + 1, h1, h2, h3, h4, h5, h6 => by
    rw [iter]
    show spec_l4Span_step0 f _ _ = _
    unfold spec_l4Span_step0
    have e1 : w64 (2 * l) = 2 * l := by rw [w64_id] <;> omega
    have e2 : w64 (w64 (2 * h) + 1) = 2 * h + 1 := by rw [w64_id (x := 2 * h), w64_id] <;> omega
    have e3 : w64 (l - 64) = l - 64 := by rw [w64_id] <;> omega
    have e4 : w64 (h - 64) = h - 64 := by rw [w64_id] <;> omega
    by_cases c : l < 64
    · cases n with
      | zero => omega
      | succ n =>
        have ih := specSpan_loop f n (2 * l) (2 * h + 1) fuel (by omega) (by omega) (by omega) (by omega) (by omega) (by omega)
        simp only [c, decide_true, cond_true, e1, e2, ih, spanG, if_true]
    · have e5 : spanG n l h = (l - 64, h - 64) := by
        cases n with
        | zero => rfl
        | succ n => simp only [spanG, if_neg c]
      simp only [c, decide_false, cond_false, e3, e4, e5]

theorem implSpan_loop (f : Nat) : ∀ (n : Nat) (l h : Int) (fuel : Nat), 1 ≤ l → l ≤ 127 → l ≤ h → h + 1 ≤ 2 * l → 64 ≤ l + n → n < fuel →
    iter (impl_RankSpan_st0 f) fuel (l, h) = some (((spanG n l h).1, ()), ((spanG n l h).2, ()), ())
  | n, l, h, 0, h1, h2, h3, h4, h5, h6 => by omega
  | n, l, h, fuel + 1, h1, h2, h3, h4, h5, h6 => by
    rw [iter]
    show impl_RankSpan_step0 f _ _ = _
    unfold impl_RankSpan_step0
    have e3 : w64 (l - 64) = l - 64 := by rw [w64_id] <;> omega
    have e4 : w64 (h - 64) = h - 64 := by rw [w64_id] <;> omega
    have e2 : w64 (zz (BitVec.toNat (BitVec.ofInt (IntKind.bits IntKind.i64) (w64 (h * 2 ^ min (Int.toNat 1) (IntKind.bits IntKind.i64))) ||| BitVec.ofInt (IntKind.bits IntKind.i64) 1))) = 2 * h + 1 := by
      rw [shl_one h (by omega) (by omega)]
      obtain ⟨x, rfl⟩ : ∃ x : Nat, h = x := ⟨h.toNat, by omega⟩
      show w64 (zz (BitVec.toNat (BitVec.ofInt 64 (2 * (x : Int)) ||| BitVec.ofInt 64 1))) = _
      rw [or_one x (by omega), zz_eq, w64_id] <;> omega
    by_cases c : l < 64
    · cases n with
      | zero => omega
      | succ n =>
        have ih := implSpan_loop f n (2 * l) (2 * h + 1) fuel (by omega) (by omega) (by omega) (by omega) (by omega) (by omega)
        simp only [c, decide_true, cond_true, shl_one l (by omega) (by omega), e2, ih, spanG, if_true]
    · have e5 : spanG n l h = (l - 64, h - 64) := by
        cases n with
        | zero => rfl
        | succ n => simp only [spanG, if_neg c]
      simp only [c, decide_false, cond_false, e3, e4, e5]

theorem specSpan_eq (f : Nat) (a : Int) (h1 : 1 ≤ a) (h2 : a ≤ 127) (hf : 63 < f) : spec_l4Span_fn f ((a, ()), ()) = some (((span a).1, ()), ((span a).2, ()), ()) := by
  unfold spec_l4Span_fn spec_l4Span_pre
  exact specSpan_loop f 63 a a f h1 h2 (by omega) (by omega) (by omega) hf
theorem implSpan_eq (f : Nat) (a : Int) (h1 : 1 ≤ a) (h2 : a ≤ 127) (hf : 63 < f) : impl_RankSpan_fn f ((a, ()), ()) = some (((span a).1, ()), ((span a).2, ()), ()) := by
  unfold impl_RankSpan_fn impl_RankSpan_pre
  have c1 : ¬ a < 1 := by omega
  have c2 : ¬ 128 ≤ a := by omega
  simp [c1, c2]
  exact implSpan_loop f 63 a a f h1 h2 (by omega) (by omega) (by omega) hf

def GoodK (ks : List Knot) : Prop := ∀ k ∈ ks, 1 ≤ k.1 ∧ k.1 ≤ 127 ∧ 1 ≤ k.2.1 ∧ k.2.1 ≤ 2000

theorem okGo_good {all : Int} : ∀ {ks : List Knot} {before sum : Int}, 0 ≤ before → okGo all ks before sum = true → GoodK ks
  | [], _, _, _, _ => fun k hk => by cases hk
  | k :: r, before, sum, hb, h => by
    unfold okGo at h
    split at h
    · cases h
    · rename_i c
      have ih := okGo_good (by omega) h
      intro k' hk'
      rcases List.mem_cons.1 hk' with rfl | hk'
      · omega
      · exact ih k' hk'
theorem okB_good {ks : List Knot} {all : Int} (h : okB ks all = true) : GoodK ks := by
  unfold okB at h
  split at h
  · cases h
  · exact okGo_good (Int.le_refl _) h

def belowGo (t : Int) : List Knot → Int → Int → Int × Int
  | [], l, m => (l, m)
  | k :: r, l, m => belowGo t r (if (span k.1).2 ≤ t then w64 (l + k.2.1) else l) (if (span k.1).1 ≤ t then w64 (m + k.2.1) else m)
def belowB (ks : List Knot) (all t : Int) : Int × Int := if okB ks all = true ∧ 0 ≤ t ∧ t ≤ 63 then belowGo t ks 0 0 else (-1, -1)

theorem impl_upTo_loop (f : Nat) (ks : List Knot) (t : Int) (hl : ks.length < 4294967296) (hg : GoodK ks) (hf63 : 63 < f) : ∀ (d i : Nat) (l m : Int) (fuel : Nat), i + d = ks.length → d < fuel →
    iter (impl_Rank_upTo_st0 f) fuel ((i : Int), (ks.length : Int), ks, t, l, m) = some (((belowGo t (ks.drop i) l m).1, ()), ((belowGo t (ks.drop i) l m).2, ()), ())
  | 0, i, l, m, fuel + 1, hi, hf => by
    rw [iter]
    show impl_Rank_upTo_step0 f _ _ = _
    unfold impl_Rank_upTo_step0
    have h1 : ¬ ((i : Int) < (ks.length : Int)) := by omega
    have h2 : ks.drop i = [] := List.drop_eq_nil_of_le (by omega)
    simp [h1, h2, belowGo]
  | d + 1, i, l, m, fuel + 1, hi, hf => by
    rw [iter]
    show impl_Rank_upTo_step0 f _ _ = _
    unfold impl_Rank_upTo_step0
    have h1 : (i : Int) < (ks.length : Int) := by omega
    have h2 : (0 : Int) ≤ (i : Int) := by omega
    have h3 : w64 ((i : Int) + 1) = (i : Int) + 1 := by rw [w64_id] <;> omega
    have ih : ∀ l m, iter (impl_Rank_upTo_st0 f) fuel ((i : Int) + 1, (ks.length : Int), ks, t, l, m) = some (((belowGo t (ks.drop (i + 1)) l m).1, ()), ((belowGo t (ks.drop (i + 1)) l m).2, ()), ()) := fun l m => by
      exact_mod_cast impl_upTo_loop f ks t hl hg hf63 d (i + 1) l m fuel (by omega) (by omega)
    have hk := hg (ks.getD i (0, 0, ())) (by
      rw [List.getD_eq_getElem?_getD, List.getElem?_eq_getElem (by omega)]; exact List.getElem_mem _)
    rw [drop_cons (0, 0, ()) (show i < ks.length by omega)]
    simp only [h1, h2, h3, zz_eq, Int.toNat_natCast, decide_true, cond_true]
    obtain ⟨k, hk'⟩ : ∃ k : Knot, ks.getD i (0, 0, ()) = k := ⟨_, rfl⟩
    simp only [hk'] at hk ⊢
    simp only [implSpan_eq f k.1 hk.1 hk.2.1 hf63, Option.bind_some, belowGo]
    by_cases c1 : (span k.1).2 ≤ t <;> by_cases c2 : (span k.1).1 ≤ t <;> simp [c1, c2, ih]

theorem spec_below_loop (f : Nat) (ks : List Knot) (t all : Int) (hl : ks.length < 4294967296) (hg : GoodK ks) (hf63 : 63 < f) : ∀ (d i : Nat) (l m : Int) (fuel : Nat), i + d = ks.length → d < fuel →
    iter (spec_RankBelow_st0 f) fuel ((i : Int), t, l, m, ks, all) = some (((belowGo t (ks.drop i) l m).1, ()), ((belowGo t (ks.drop i) l m).2, ()), ())
  | 0, i, l, m, fuel + 1, hi, hf => by
    rw [iter]
    show spec_RankBelow_step0 f _ _ = _
    unfold spec_RankBelow_step0
    have h1 : ¬ ((i : Int) < (ks.length : Int)) := by omega
    have h2 : ks.drop i = [] := List.drop_eq_nil_of_le (by omega)
    simp [h1, h2, belowGo, zz_eq]
  | d + 1, i, l, m, fuel + 1, hi, hf => by
    rw [iter]
    show spec_RankBelow_step0 f _ _ = _
    unfold spec_RankBelow_step0
    have h1 : (i : Int) < (ks.length : Int) := by omega
    have h2 : (0 : Int) ≤ (i : Int) := by omega
    have h3 : w64 ((i : Int) + 1) = (i : Int) + 1 := by rw [w64_id] <;> omega
    have ih : ∀ l m, iter (spec_RankBelow_st0 f) fuel ((i : Int) + 1, t, l, m, ks, all) = some (((belowGo t (ks.drop (i + 1)) l m).1, ()), ((belowGo t (ks.drop (i + 1)) l m).2, ()), ()) := fun l m => by
      exact_mod_cast spec_below_loop f ks t all hl hg hf63 d (i + 1) l m fuel (by omega) (by omega)
    have hk := hg (ks.getD i (0, 0, ())) (by
      rw [List.getD_eq_getElem?_getD, List.getElem?_eq_getElem (by omega)]; exact List.getElem_mem _)
    rw [drop_cons (0, 0, ()) (show i < ks.length by omega)]
    simp only [h1, h2, h3, zz_eq, Int.toNat_natCast, decide_true, cond_true]
    obtain ⟨k, hk'⟩ : ∃ k : Knot, ks.getD i (0, 0, ()) = k := ⟨_, rfl⟩
    simp only [hk'] at hk ⊢
    simp only [specSpan_eq f k.1 hk.1 hk.2.1 hf63, Option.bind_some, belowGo]
    by_cases c1 : (span k.1).2 ≤ t <;> by_cases c2 : (span k.1).1 ≤ t <;> simp [c1, c2, ih]

theorem implBelow_eq (f : Nat) (ks : List Knot) (all t : Int) (hl : ks.length < 4294967296) (hf : ks.length < f) (hf63 : 63 < f) :
    impl_RankBelow_fn f ((ks, all, ()), (t, ()), ()) = some (((belowB ks all t).1, ()), ((belowB ks all t).2, ()), ()) := by
  unfold impl_RankBelow_fn impl_RankBelow_pre belowB
  simp only [implOk_eq f ks all hl hf, Option.bind_some, isThing_eq]
  by_cases c : okB ks all = true
  · by_cases c2 : 0 ≤ t ∧ t ≤ 63
    · have hlp := impl_upTo_loop f ks t hl (okB_good c) hf63 ks.length 0 0 0 f (by omega) hf
      have e : impl_Rank_upTo_fn f ((ks, all, ()), (t, ()), ()) = some (((belowGo t ks 0 0).1, ()), ((belowGo t ks 0 0).2, ()), ()) := by
        unfold impl_Rank_upTo_fn impl_Rank_upTo_pre
        simpa [zz_eq] using hlp
      simp [c, c2, e]
    · simp [c, c2]
  · simp [c]

theorem specBelow_eq (f : Nat) (ks : List Knot) (all t : Int) (hl : ks.length < 4294967296) (hf : ks.length < f) (hf63 : 63 < f) :
    spec_RankBelow_fn f ((ks, all, ()), (t, ()), ()) = some (((belowB ks all t).1, ()), ((belowB ks all t).2, ()), ()) := by
  unfold spec_RankBelow_fn spec_RankBelow_pre belowB
  simp only [specOk_eq f ks all hl hf, Option.bind_some, in_eq]
  by_cases c : okB ks all = true
  · by_cases c2 : 0 ≤ t ∧ t ≤ 63
    · have hlp := spec_below_loop f ks t all hl (okB_good c) hf63 ks.length 0 0 0 f (by omega) hf
      simp [c, c2]
      simpa using hlp
    · simp [c, c2]
  · simp [c]

theorem belowGo_mono {t t' : Int} (ht : t ≤ t') : ∀ {ks : List Knot} {l m l' m' : Int}, GoodK ks → 0 ≤ l → 0 ≤ m → l ≤ l' → m ≤ m' → l' + 2000 * ks.length ≤ 4611686018427387904 → m' + 2000 * ks.length ≤ 4611686018427387904 →
    (belowGo t ks l m).1 ≤ (belowGo t' ks l' m').1 ∧ (belowGo t ks l m).2 ≤ (belowGo t' ks l' m').2 ∧ 0 ≤ (belowGo t ks l m).1
  | [], l, m, l', m', hg, h1, h2, h3, h4, h5, h6 => ⟨h3, h4, h1⟩
  | k :: r, l, m, l', m', hg, h1, h2, h3, h4, h5, h6 => by
    have hk := hg k (by simp)
    simp only [List.length_cons] at h5 h6
    have e1 : w64 (l + k.2.1) = l + k.2.1 := by rw [w64_id] <;> omega
    have e2 : w64 (m + k.2.1) = m + k.2.1 := by rw [w64_id] <;> omega
    have e3 : w64 (l' + k.2.1) = l' + k.2.1 := by rw [w64_id] <;> omega
    have e4 : w64 (m' + k.2.1) = m' + k.2.1 := by rw [w64_id] <;> omega
    simp only [belowGo, e1, e2, e3, e4]
    refine belowGo_mono ht (fun x hx => hg x (by simp [hx])) ?_ ?_ ?_ ?_ ?_ ?_ <;> (repeat' split) <;> omega

theorem belowB_mono {ks : List Knot} {all t t' : Int} (hl : ks.length < 4294967296) (ht : t ≤ t') (h63 : t' ≤ 63) (h : 0 ≤ (belowB ks all t).1) :
    (belowB ks all t).1 ≤ (belowB ks all t').1 ∧ (belowB ks all t).2 ≤ (belowB ks all t').2 ∧ 0 ≤ t := by
  unfold belowB at h ⊢
  split at h
  · rename_i c
    rw [if_pos ⟨c.1, c.2.1, by omega⟩, if_pos ⟨c.1, by omega, h63⟩]
    have := belowGo_mono ht (okB_good c.1) (Int.le_refl 0) (Int.le_refl 0) (Int.le_refl 0) (Int.le_refl 0) (by omega) (by omega)
    exact ⟨this.1, this.2.1, c.2.1⟩
  · simp at h
end Go.Proofs.Ytapicafncjajnaa.Den
