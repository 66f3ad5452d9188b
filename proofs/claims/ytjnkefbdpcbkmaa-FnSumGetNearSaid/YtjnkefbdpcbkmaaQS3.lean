/- The measure, the copy and the comparison of sums that the exact laws use. -/
import Derived.Test.YtjnkefbdpcbkmaaQS2
import Derived.Test.YtjnkefbdpcbkmaaR0
namespace Go.Proofs.Ytjnkefbdpcbkmaa.Den
open Go
set_option linter.unusedVariables false
set_option linter.unusedSimpArgs false

def szR (n l : Int) : Int := if n - l < 0 then -1 else n - l
theorem szR_le {n l : Int} (h : 0 ≤ l) (hn : 0 ≤ n) : szR n l ≤ n ∧ -1 ≤ szR n l ∧ (0 ≤ szR n l → l ≤ n) := by
  unfold szR; split <;> omega
theorem szInts_eq (f : Nat) (l : List Int) (n : Int) (h0 : 0 ≤ n) (h1 : n ≤ 1048576) (hl : l.length ≤ maxLen) : laws_szIntS_fn f ((l, ()), (n, ()), ()) = some ((szR n l.length, ()), ()) := by
  show laws_szIntS_pre f l n = _
  unfold laws_szIntS_pre
  have hm : maxLen ≤ 9223372036854775807 := by decide
  have e : w64 (n - (l.length : Int)) = n - l.length := by rw [w64_id] <;> omega
  simp only [zz_eq, e]
  unfold szR
  by_cases c : n - (l.length : Int) < 0 <;> simp [c]
theorem szPairs_eq (f : Nat) (l : List Knot) (n : Int) (h0 : 0 ≤ n) (h1 : n ≤ 1048576) (hl : l.length ≤ maxLen) : laws_szPairS_fn f ((l, ()), (n, ()), ()) = some ((szR n l.length, ()), ()) := by
  show laws_szPairS_pre f l n = _
  unfold laws_szPairS_pre
  have hm : maxLen ≤ 9223372036854775807 := by decide
  have e : w64 (n - (l.length : Int)) = n - l.length := by rw [w64_id] <;> omega
  simp only [zz_eq, e]
  unfold szR
  by_cases c : n - (l.length : Int) < 0 <;> simp [c]
theorem szKnots_eq (f : Nat) (l : List Knot) (n : Int) (h0 : 0 ≤ n) (h1 : n ≤ 1048576) (hl : l.length ≤ maxLen) : laws_szKnotS_fn f ((l, ()), (n, ()), ()) = some ((szR n l.length, ()), ()) := by
  show laws_szKnotS_pre f l n = _
  unfold laws_szKnotS_pre
  have hm : maxLen ≤ 9223372036854775807 := by decide
  have e : w64 (n - (l.length : Int)) = n - l.length := by rw [w64_id] <;> omega
  simp only [zz_eq, e]
  unfold szR
  by_cases c : n - (l.length : Int) < 0 <;> simp [c]

/-- A measure that answers: less is left, and if something is left all is short. -/
def Mes (o : Option ((Int × Unit) × Unit)) (n : Int) (P : Prop) : Prop := ∃ v : Int, o = some ((v, ()), ()) ∧ v ≤ n ∧ (0 ≤ v → P)

theorem szRows (f : Nat) (rs : List (List Int)) (n : Int) (h0 : 0 ≤ n) (h1 : n ≤ 1048576) (hl : rs.length ≤ maxLen) (hr : ∀ r ∈ rs, r.length ≤ maxLen) (hf : 1048576 < f) :
    Mes (laws_szIntSS_fn f ((rs, ()), (n, ()), ())) n (rs.length ≤ 1048576 ∧ ∀ r ∈ rs, r.length ≤ 1048576) := by
  unfold Mes
  show ∃ v, laws_szIntSS_pre f (iter (laws_szIntSS_st0 f) f) rs n = _ ∧ _
  unfold laws_szIntSS_pre
  have hm : maxLen ≤ 9223372036854775807 := by decide
  have e : w64 (n - (rs.length : Int)) = n - rs.length := by rw [w64_id] <;> omega
  simp only [zz_eq, e]
  by_cases c : n - (rs.length : Int) < 0
  · simp only [c, decide_true, cond_true]
    exact ⟨-1, rfl, by omega, fun h => by omega⟩
  simp only [c, decide_false, cond_false]
  have key : ∀ (l : List (List Int)) (left : Int), (∀ r ∈ l, r.length ≤ maxLen) → 0 ≤ left → left ≤ 1048576 →
      ∃ v : Int, goL (R := ((Int × Unit) × Unit)) (fun (row : List Int) k left => (laws_szIntS_fn f ((row, ()), (left, ()), ())).bind fun y => cond (decide (y.fst.fst < (0 : Int))) (some (((-1 : Int), ()), ())) (k y.fst.fst)) (fun s => some ((s, ()), ())) l left = some ((v, ()), ()) ∧ v ≤ left ∧ (0 ≤ v → ∀ r ∈ l, r.length ≤ 1048576) := by
    intro l
    induction l with
    | nil => intro left _ _ _; exact ⟨left, rfl, by omega, fun _ r hr => by cases hr⟩
    | cons x l ih =>
      intro left hl a b
      obtain ⟨g1, g2, g3⟩ := szR_le (n := left) (l := (x.length : Int)) (by omega) a
      unfold goL
      simp only [szInts_eq f x left a b (hl x (List.mem_cons_self ..)), Option.bind_some]
      by_cases c : szR left x.length < 0
      · simp only [c, decide_true, cond_true]
        exact ⟨-1, rfl, by omega, fun h => by omega⟩
      · simp only [c, decide_false, cond_false]
        obtain ⟨v, h1, h2, h3⟩ := ih (szR left x.length) (fun r hr => hl r (List.mem_cons_of_mem _ hr)) (by omega) (by omega)
        refine ⟨v, h1, by omega, fun h r hr => ?_⟩
        rcases List.mem_cons.mp hr with rfl | hr
        · have := g3 (by omega); omega
        · exact h3 h r hr
  obtain ⟨v, h2, h3, h4⟩ := key rs (n - rs.length) hr (by omega) (by omega)
  refine ⟨v, ?_, by omega, fun h => ⟨by omega, h4 h⟩⟩
  rw [← h2]
  refine iter_list (st := laws_szIntSS_st0 f) (enc := fun i left => ((i : Int), rs, left)) _ _ rs [] ?_ ?_ f _ (by omega)
  · intro i s g hi
    show laws_szIntSS_step0 f g _ = _
    unfold laws_szIntSS_step0
    simp only [zz_eq, lt_cast hi, le_cast, decide_true, cond_true, Int.toNat_natCast, w64_up (show i < 4294967296 by omega)]
  · intro s g
    show laws_szIntSS_step0 f g _ = _
    unfold laws_szIntSS_step0
    simp only [zz_eq, nlt_cast, decide_false, cond_false]

/-- All parts of a sum are short. -/
def Short (rs : List (List Int)) (ms : List Int) (ps ks : List Knot) (n : Nat) : Prop := rs.length ≤ n ∧ (∀ r ∈ rs, r.length ≤ n) ∧ ms.length ≤ n ∧ ps.length ≤ n ∧ ks.length ≤ n

theorem szSum_eq (f : Nat) (rs : List (List Int)) (ms : List Int) (ps : List Knot) (lost tall : Int) (ks : List Knot) (rall n : Int) (h0 : 0 ≤ n) (h1 : n ≤ 1048576) (hs : Short rs ms ps ks maxLen) (hf : 1048576 < f) :
    Mes (laws_szSum_fn f ((rs, ms, ps, lost, tall, ks, rall, ()), (n, ()), ())) n (Short rs ms ps ks 1048576) := by
  obtain ⟨s1, s2, s3, s4, s5⟩ := hs
  show Mes (laws_szSum_pre f rs ms ps lost tall ks rall n) _ _
  unfold laws_szSum_pre
  have a0 : laws_szRough_fn f ((rs, ()), (n, ()), ()) = laws_szRough_pre f rs n := rfl
  obtain ⟨v1, e1, u1, w1⟩ := szRows f rs n h0 h1 s1 s2 hf
  have a1 : laws_szRough_fn f ((rs, ()), (n, ()), ()) = some ((if v1 < 0 then -1 else v1, ()), ()) := by
    rw [a0]; unfold laws_szRough_pre
    rw [e1, Option.bind_some]
    by_cases c : v1 < 0 <;> simp only [c, decide_true, decide_false, cond_true, cond_false, if_true, if_false]
  rw [a1, Option.bind_some]
  by_cases c1 : v1 < 0
  · exact ⟨-1, by simp [c1], by omega, fun h => by omega⟩
  simp only [c1, if_false, decide_false, cond_false]
  have few : laws_szFew_fn f ((ms, ()), (v1, ()), ()) = some ((szR v1 ms.length, ()), ()) := by
    show laws_szFew_pre f ms v1 = _
    unfold laws_szFew_pre
    rw [szInts_eq f ms v1 (by omega) (by omega) s3, Option.bind_some]
    unfold szR
    by_cases c : v1 - (ms.length : Int) < 0 <;> simp [c]
  rw [few, Option.bind_some]
  obtain ⟨g1, g2, g3⟩ := szR_le (n := v1) (l := (ms.length : Int)) (by omega) (by omega)
  obtain ⟨v2, hv2⟩ : ∃ v, szR v1 ms.length = v := ⟨_, rfl⟩
  rw [hv2] at g1 g2 g3 ⊢
  by_cases c2 : v2 < 0
  · exact ⟨-1, by simp [c2], by omega, fun h => by omega⟩
  simp only [c2, decide_false, cond_false]
  have top : laws_szTop_fn f ((ps, lost, tall, ()), (v2, ()), ()) = some ((szR v2 ps.length, ()), ()) := by
    show laws_szTop_pre f ps lost tall v2 = _
    unfold laws_szTop_pre
    rw [szPairs_eq f ps v2 (by omega) (by omega) s4, Option.bind_some]
    unfold szR
    by_cases c : v2 - (ps.length : Int) < 0 <;> simp [c]
  rw [top, Option.bind_some]
  obtain ⟨g4, g5, g6⟩ := szR_le (n := v2) (l := (ps.length : Int)) (by omega) (by omega)
  obtain ⟨v3, hv3⟩ : ∃ v, szR v2 ps.length = v := ⟨_, rfl⟩
  rw [hv3] at g4 g5 g6 ⊢
  by_cases c3 : v3 < 0
  · exact ⟨-1, by simp [c3], by omega, fun h => by omega⟩
  simp only [c3, decide_false, cond_false]
  have rank : laws_szRank_fn f ((ks, rall, ()), (v3, ()), ()) = some ((szR v3 ks.length, ()), ()) := by
    show laws_szRank_pre f ks rall v3 = _
    unfold laws_szRank_pre
    rw [szKnots_eq f ks v3 (by omega) (by omega) s5, Option.bind_some]
    unfold szR
    by_cases c : v3 - (ks.length : Int) < 0 <;> simp [c]
  rw [rank, Option.bind_some]
  obtain ⟨g7, g8, g9⟩ := szR_le (n := v3) (l := (ks.length : Int)) (by omega) (by omega)
  obtain ⟨v4, hv4⟩ : ∃ v, szR v3 ks.length = v := ⟨_, rfl⟩
  rw [hv4] at g7 g8 g9 ⊢
  by_cases c4 : v4 < 0
  · exact ⟨-1, by simp [c4], by omega, fun h => by omega⟩
  have b1 := w1 (by omega)
  have b2 := g3 (by omega)
  have b3 := g6 (by omega)
  have b4 := g9 (by omega)
  exact ⟨v4, by simp [c4], by omega, fun h => ⟨b1.1, b1.2, by omega, by omega, by omega⟩⟩

theorem lim_of {n : Nat} (h : n ≤ 1048576) : n < LIM := by simp only [LIM]; omega

theorem toInts_eq (f : Nat) (l : List Int) (hl : l.length ≤ 1048576) (hf : l.length < f) : laws_toIntS_fn f ((l, ()), ()) = some ((l, ()), ()) := by
  show laws_toIntS_pre f (iter (laws_toIntS_st0 f) f) l = _
  unfold laws_toIntS_pre
  have h1 := lim_of hl
  simp only [zz_eq, Int.toNat_natCast, Int.natCast_nonneg, Int.le_refl, h1, decide_true, cond_true]
  refine (iter_fill0 (st := laws_toIntS_st0 f) (enc := fun i out => ((i : Int), l, out)) (fun out => some ((out, ()), ())) l 0 id ?_ ?_ f 0 hf).trans (by rw [List.map_id])
  · intro i out g hi ho
    show laws_toIntS_step0 f g _ = _
    unfold laws_toIntS_step0
    have ho' : i < out.length := by omega
    simp only [zz_eq, lt_cast hi, lt_cast ho', ho', le_cast, decide_true, cond_true, Int.toNat_natCast, w64_up (show i < 4294967296 by omega)]
    rfl
  · intro s g
    show laws_toIntS_step0 f g _ = _
    unfold laws_toIntS_step0
    simp only [zz_eq, nlt_cast, decide_false, cond_false]

theorem toRows_eq (f : Nat) (l : List (List Int)) (hl : l.length ≤ 1048576) (hr : ∀ r ∈ l, r.length ≤ 1048576) (hf : 1048576 < f) : laws_toIntSS_fn f ((l, ()), ()) = some ((l, ()), ()) := by
  show laws_toIntSS_pre f (iter (laws_toIntSS_st0 f) f) l = _
  unfold laws_toIntSS_pre
  have h1 := lim_of hl
  simp only [zz_eq, Int.toNat_natCast, Int.natCast_nonneg, Int.le_refl, h1, decide_true, cond_true]
  refine (iter_fill0 (st := laws_toIntSS_st0 f) (enc := fun i out => ((i : Int), l, out)) (fun out => some ((out, ()), ())) l [] id ?_ ?_ f [] (by omega)).trans (by rw [List.map_id])
  · intro i out g hi ho
    show laws_toIntSS_step0 f g _ = _
    unfold laws_toIntSS_step0
    have ho' : i < out.length := by omega
    have hx : (l.getD i []).length ≤ 1048576 := hr _ (by rw [List.getD_eq_getElem?_getD, List.getElem?_eq_getElem hi]; exact List.getElem_mem hi)
    simp only [zz_eq, lt_cast hi, lt_cast ho', ho', le_cast, decide_true, cond_true, Int.toNat_natCast, w64_up (show i < 4294967296 by omega), toInts_eq f _ hx (by omega), Option.bind_some]
    rfl
  · intro s g
    show laws_toIntSS_step0 f g _ = _
    unfold laws_toIntSS_step0
    simp only [zz_eq, nlt_cast, decide_false, cond_false]

theorem toPairs_eq (f : Nat) (l : List Knot) (hl : l.length ≤ 1048576) (hf : l.length < f) : laws_toPairS_fn f ((l, ()), ()) = some ((l, ()), ()) := by
  show laws_toPairS_pre f (iter (laws_toPairS_st0 f) f) l = _
  unfold laws_toPairS_pre
  have h1 := lim_of hl
  simp only [zz_eq, Int.toNat_natCast, Int.natCast_nonneg, Int.le_refl, h1, decide_true, cond_true]
  refine (iter_fill0 (st := laws_toPairS_st0 f) (enc := fun i out => ((i : Int), l, out)) (fun out => some ((out, ()), ())) l (0, 0, ()) id ?_ ?_ f (0, 0, ()) hf).trans (by rw [List.map_id])
  · intro i out g hi ho
    show laws_toPairS_step0 f g _ = _
    unfold laws_toPairS_step0
    have ho' : i < out.length := by omega
    have ek : ∀ x : Knot, laws_toPair_fn f ((x.1, x.2.1, ()), ()) = some ((x.1, x.2.1, ()), ()) := fun x => rfl
    simp only [zz_eq, lt_cast hi, lt_cast ho', ho', le_cast, decide_true, cond_true, Int.toNat_natCast, w64_up (show i < 4294967296 by omega), ek, Option.bind_some]
    rfl
  · intro s g
    show laws_toPairS_step0 f g _ = _
    unfold laws_toPairS_step0
    simp only [zz_eq, nlt_cast, decide_false, cond_false]

theorem toKnots_eq (f : Nat) (l : List Knot) (hl : l.length ≤ 1048576) (hf : l.length < f) : laws_toKnotS_fn f ((l, ()), ()) = some ((l, ()), ()) := by
  show laws_toKnotS_pre f (iter (laws_toKnotS_st0 f) f) l = _
  unfold laws_toKnotS_pre
  have h1 := lim_of hl
  simp only [zz_eq, Int.toNat_natCast, Int.natCast_nonneg, Int.le_refl, h1, decide_true, cond_true]
  refine (iter_fill0 (st := laws_toKnotS_st0 f) (enc := fun i out => ((i : Int), l, out)) (fun out => some ((out, ()), ())) l (0, 0, ()) id ?_ ?_ f (0, 0, ()) hf).trans (by rw [List.map_id])
  · intro i out g hi ho
    show laws_toKnotS_step0 f g _ = _
    unfold laws_toKnotS_step0
    have ho' : i < out.length := by omega
    have ek : ∀ x : Knot, laws_toKnot_fn f ((x.1, x.2.1, ()), ()) = some ((x.1, x.2.1, ()), ()) := fun x => rfl
    simp only [zz_eq, lt_cast hi, lt_cast ho', ho', le_cast, decide_true, cond_true, Int.toNat_natCast, w64_up (show i < 4294967296 by omega), ek, Option.bind_some]
    rfl
  · intro s g
    show laws_toKnotS_step0 f g _ = _
    unfold laws_toKnotS_step0
    simp only [zz_eq, nlt_cast, decide_false, cond_false]

theorem toSum_eq (f : Nat) (rs : List (List Int)) (ms : List Int) (ps : List Knot) (lost tall : Int) (ks : List Knot) (rall : Int) (hs : Short rs ms ps ks 1048576) (hf : 1048576 < f) :
    laws_toSum_fn f ((rs, ms, ps, lost, tall, ks, rall, ()), ()) = some ((rs, ms, ps, lost, tall, ks, rall, ()), ()) := by
  obtain ⟨s1, s2, s3, s4, s5⟩ := hs
  show laws_toSum_pre f rs ms ps lost tall ks rall = _
  unfold laws_toSum_pre
  have e1 : laws_toRough_fn f ((rs, ()), ()) = some ((rs, ()), ()) := by
    show laws_toRough_pre f rs = _
    unfold laws_toRough_pre; rw [toRows_eq f rs s1 s2 hf]; rfl
  have e2 : laws_toFew_fn f ((ms, ()), ()) = some ((ms, ()), ()) := by
    show laws_toFew_pre f ms = _
    unfold laws_toFew_pre; rw [toInts_eq f ms s3 (by omega)]; rfl
  have e3 : laws_toTop_fn f ((ps, lost, tall, ()), ()) = some ((ps, lost, tall, ()), ()) := by
    show laws_toTop_pre f ps lost tall = _
    unfold laws_toTop_pre; rw [toPairs_eq f ps s4 (by omega)]; rfl
  have e4 : laws_toRank_fn f ((ks, rall, ()), ()) = some ((ks, rall, ()), ()) := by
    show laws_toRank_pre f ks rall = _
    unfold laws_toRank_pre; rw [toKnots_eq f ks s5 (by omega)]; rfl
  rw [e1, Option.bind_some, e2, Option.bind_some, e3, Option.bind_some, e4]; rfl

theorem eqInts_refl (f : Nat) (l : List Int) (hl : l.length ≤ 1048576) (hf : l.length < f) : laws_eqIntS_fn f ((l, ()), (l, ()), ()) = some ((true, ()), ()) := by
  show laws_eqIntS_pre f (iter (laws_eqIntS_st0 f) f) l l = _
  unfold laws_eqIntS_pre
  simp only [bne_self_eq_false, cond_false]
  refine iter_skip (st := laws_eqIntS_st0 f) (enc := fun i => ((i : Int), l, l)) _ l.length ?_ ?_ l.length 0 f (by omega) hf
  · intro i g hi
    show laws_eqIntS_step0 f g _ = _
    unfold laws_eqIntS_step0
    simp only [zz_eq, lt_cast hi, le_cast, decide_true, cond_true, Int.toNat_natCast, w64_up (show i < 4294967296 by omega), bne_self_eq_false, cond_false]
  · intro g
    show laws_eqIntS_step0 f g _ = _
    unfold laws_eqIntS_step0
    simp only [zz_eq, nlt_cast, decide_false, cond_false]
theorem eqRows_refl (f : Nat) (l : List (List Int)) (hl : l.length ≤ 1048576) (hr : ∀ r ∈ l, r.length ≤ 1048576) (hf : 1048576 < f) : laws_eqIntSS_fn f ((l, ()), (l, ()), ()) = some ((true, ()), ()) := by
  show laws_eqIntSS_pre f (iter (laws_eqIntSS_st0 f) f) l l = _
  unfold laws_eqIntSS_pre
  simp only [bne_self_eq_false, cond_false]
  refine iter_skip (st := laws_eqIntSS_st0 f) (enc := fun i => ((i : Int), l, l)) _ l.length ?_ ?_ l.length 0 f (by omega) (by omega)
  · intro i g hi
    show laws_eqIntSS_step0 f g _ = _
    unfold laws_eqIntSS_step0
    have hx : (l.getD i []).length ≤ 1048576 := hr _ (by rw [List.getD_eq_getElem?_getD, List.getElem?_eq_getElem hi]; exact List.getElem_mem hi)
    simp only [zz_eq, lt_cast hi, le_cast, decide_true, cond_true, Int.toNat_natCast, w64_up (show i < 4294967296 by omega), eqInts_refl f _ hx (by omega), Option.bind_some, Bool.not_true, cond_false]
  · intro g
    show laws_eqIntSS_step0 f g _ = _
    unfold laws_eqIntSS_step0
    simp only [zz_eq, nlt_cast, decide_false, cond_false]
theorem eqPairs_refl (f : Nat) (l : List Knot) (hl : l.length ≤ 1048576) (hf : l.length < f) : laws_eqPairS_fn f ((l, ()), (l, ()), ()) = some ((true, ()), ()) := by
  show laws_eqPairS_pre f (iter (laws_eqPairS_st0 f) f) l l = _
  unfold laws_eqPairS_pre
  simp only [bne_self_eq_false, cond_false]
  have ek : ∀ x y : Int, laws_eqPair_fn f ((x, y, ()), (x, y, ()), ()) = some ((true, ()), ()) := fun x y => by
    show laws_eqPair_pre f x y x y = _
    unfold laws_eqPair_pre
    simp
  refine iter_skip (st := laws_eqPairS_st0 f) (enc := fun i => ((i : Int), l, l)) _ l.length ?_ ?_ l.length 0 f (by omega) hf
  · intro i g hi
    show laws_eqPairS_step0 f g _ = _
    unfold laws_eqPairS_step0
    simp only [zz_eq, lt_cast hi, le_cast, decide_true, cond_true, Int.toNat_natCast, w64_up (show i < 4294967296 by omega), ek, Option.bind_some, Bool.not_true, cond_false]
  · intro g
    show laws_eqPairS_step0 f g _ = _
    unfold laws_eqPairS_step0
    simp only [zz_eq, nlt_cast, decide_false, cond_false]
theorem eqKnots_refl (f : Nat) (l : List Knot) (hl : l.length ≤ 1048576) (hf : l.length < f) : laws_eqKnotS_fn f ((l, ()), (l, ()), ()) = some ((true, ()), ()) := by
  show laws_eqKnotS_pre f (iter (laws_eqKnotS_st0 f) f) l l = _
  unfold laws_eqKnotS_pre
  simp only [bne_self_eq_false, cond_false]
  have ek : ∀ x y : Int, laws_eqKnot_fn f ((x, y, ()), (x, y, ()), ()) = some ((true, ()), ()) := fun x y => by
    show laws_eqKnot_pre f x y x y = _
    unfold laws_eqKnot_pre
    simp
  refine iter_skip (st := laws_eqKnotS_st0 f) (enc := fun i => ((i : Int), l, l)) _ l.length ?_ ?_ l.length 0 f (by omega) hf
  · intro i g hi
    show laws_eqKnotS_step0 f g _ = _
    unfold laws_eqKnotS_step0
    simp only [zz_eq, lt_cast hi, le_cast, decide_true, cond_true, Int.toNat_natCast, w64_up (show i < 4294967296 by omega), ek, Option.bind_some, Bool.not_true, cond_false]
  · intro g
    show laws_eqKnotS_step0 f g _ = _
    unfold laws_eqKnotS_step0
    simp only [zz_eq, nlt_cast, decide_false, cond_false]
theorem eqSum_refl (f : Nat) (rs : List (List Int)) (ms : List Int) (ps : List Knot) (lost tall : Int) (ks : List Knot) (rall : Int) (hs : Short rs ms ps ks 1048576) (hf : 1048576 < f) :
    laws_eqSum_fn f ((rs, ms, ps, lost, tall, ks, rall, ()), (rs, ms, ps, lost, tall, ks, rall, ()), ()) = some ((true, ()), ()) := by
  obtain ⟨s1, s2, s3, s4, s5⟩ := hs
  show laws_eqSum_pre f rs ms ps lost tall ks rall rs ms ps lost tall ks rall = _
  unfold laws_eqSum_pre
  have e1 : laws_eqRough_fn f ((rs, ()), (rs, ()), ()) = some ((true, ()), ()) := by
    show laws_eqRough_pre f rs rs = _
    unfold laws_eqRough_pre; rw [eqRows_refl f rs s1 s2 hf]; rfl
  have e2 : laws_eqFew_fn f ((ms, ()), (ms, ()), ()) = some ((true, ()), ()) := by
    show laws_eqFew_pre f ms ms = _
    unfold laws_eqFew_pre; rw [eqInts_refl f ms s3 (by omega)]; rfl
  have e3 : laws_eqTop_fn f ((ps, lost, tall, ()), (ps, lost, tall, ()), ()) = some ((true, ()), ()) := by
    show laws_eqTop_pre f ps lost tall ps lost tall = _
    unfold laws_eqTop_pre; rw [eqPairs_refl f ps s4 (by omega)]; simp
  have e4 : laws_eqRank_fn f ((ks, rall, ()), (ks, rall, ()), ()) = some ((true, ()), ()) := by
    show laws_eqRank_pre f ks rall ks rall = _
    unfold laws_eqRank_pre; rw [eqKnots_refl f ks s5 (by omega)]; simp
  rw [e1, Option.bind_some, e2, Option.bind_some, e3, Option.bind_some, e4]; rfl
end Go.Proofs.Ytjnkefbdpcbkmaa.Den
