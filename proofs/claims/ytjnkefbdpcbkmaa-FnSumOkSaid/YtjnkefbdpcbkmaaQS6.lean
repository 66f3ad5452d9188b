/- The draws of numbers and things end, and draw what they may. -/
import Derived.Test.YtjnkefbdpcbkmaaQS5
namespace Go.Proofs.Ytjnkefbdpcbkmaa.Den
open Go
set_option linter.unusedVariables false
set_option linter.unusedSimpArgs false

/-- Bytes of a code, cut. -/
def Bytes (b : List Int) : Prop := b.length ≤ 2000 ∧ ∀ x ∈ b, 0 ≤ x ∧ x ≤ 255

theorem Bytes.getD {b : List Int} (h : Bytes b) (i : Nat) : 0 ≤ b.getD i 0 ∧ b.getD i 0 ≤ 255 := by
  rw [List.getD_eq_getElem?_getD]
  cases hi : b[i]? with
  | none => simp
  | some x => simpa using h.2 x (List.mem_of_getElem? hi)

theorem xor_nonneg {x y : Int} (h1 : 0 ≤ x) (h2 : x < 4611686018427387904) (h3 : 0 ≤ y) (h4 : y < 4611686018427387904) :
    0 ≤ w64 (zz (BitVec.toNat (BitVec.ofInt (IntKind.bits IntKind.i64) x ^^^ BitVec.ofInt (IntKind.bits IntKind.i64) y))) := by
  show 0 ≤ w64 (zz (BitVec.toNat (BitVec.ofInt 64 x ^^^ BitVec.ofInt 64 y)))
  rw [BitVec.toNat_xor, BitVec.toNat_ofInt, BitVec.toNat_ofInt]
  have e1 : (x % ((2 ^ 64 : Nat) : Int)).toNat < 2 ^ 62 := by omega
  have e2 : (y % ((2 ^ 64 : Nat) : Int)).toNat < 2 ^ 62 := by omega
  have e3 := Nat.xor_lt_two_pow e1 e2
  rw [zz_eq, w64_id] <;> omega

/-- Where a reader stands behind some draws. -/
def Rd (b : List Int) (p q : Int) (s : List Int × Int × Unit) : Prop := s.1 = b ∧ p ≤ s.2.1 ∧ s.2.1 ≤ q

theorem pick_ok (f : Nat) (b : List Int) (p n : Int) (hb : Bytes b) (h0 : 0 ≤ p) (h1 : p ≤ 1000000000) (hn : 1 ≤ n) :
    Ret (spec_l6Rd_pick_fn f ((b, p, ()), (n, ()), ())) fun s => Rd b p (p + 1) s.1 ∧ 0 ≤ s.2.1.1 ∧ s.2.1.1 < n := by
  unfold spec_l6Rd_pick_fn spec_l6Rd_pick_pre
  have e1 : w64 (p + 1) = p + 1 := by rw [w64_id] <;> omega
  have e2 : w64 (p + 1 - 1) = p := by rw [w64_id] <;> omega
  have hlen := hb.1
  have hrd : Rd b p (p + 1) (b, p + 1, ()) := ⟨rfl, by show p ≤ p + 1; omega, Int.le_refl _⟩
  have t2 : (!decide (n = 0)) = true := by rw [decide_eq_false (by omega)]; rfl
  have hmod : ∀ {x : Int}, 0 ≤ x → 0 ≤ Int.tmod x n ∧ Int.tmod x n < n := fun {x} h => ⟨Int.tmod_nonneg n h, Int.tmod_lt_of_pos x (by omega)⟩
  simp only [e1, e2, zz_eq]
  refine Ret.cond (fun h => ?_) fun _ => ?_
  · have := of_decide_eq_true h; omega
  refine Ret.cond (fun h => Ret.ret ⟨hrd, by show (0 : Int) ≤ 0; omega, by show (0 : Int) < n; omega⟩) fun hz => ?_
  have hpos : 0 < b.length := by
    rcases Nat.eq_zero_or_pos b.length with h | h
    · rw [h] at hz; simp at hz
    · exact h
  have t1 : (!decide ((b.length : Int) = 0)) = true := by rw [decide_eq_false (by omega)]; rfl
  refine Ret.cond (fun h => ?_) fun _ => ?_
  · have hg := hb.getD p.toNat
    have e3 : w64 (b.getD p.toNat 0) = b.getD p.toNat 0 := by rw [w64_id] <;> omega
    refine Ret.tst (by simpa using h0) (Ret.tst h (Ret.tst t2 (Ret.ret ⟨hrd, ?_⟩)))
    show 0 ≤ Int.tmod _ n ∧ Int.tmod _ n < n
    rw [e3]; exact hmod hg.1
  · have hL : (0 : Int) < (b.length : Int) := by omega
    have e4 : w64 (w64 (p * 7) + 3) = p * 7 + 3 := by rw [w64_id (x := p * 7), w64_id] <;> omega
    have m1 := Int.tmod_nonneg (b.length : Int) h0
    have m2 := Int.tmod_lt_of_pos p hL
    have m3 := Int.tmod_nonneg (b.length : Int) (a := p * 7 + 3) (by omega)
    have m4 := Int.tmod_lt_of_pos (p * 7 + 3) hL
    have g1 := hb.getD (Int.tmod p (b.length : Int)).toNat
    have g2 := hb.getD (Int.tmod (p * 7 + 3) (b.length : Int)).toNat
    have d1 : 0 ≤ Int.tdiv p (b.length : Int) := Int.tdiv_nonneg h0 (by omega)
    have d2 : Int.tdiv p (b.length : Int) ≤ p := by
      rw [Int.tdiv_eq_ediv_of_nonneg h0]; exact Int.ediv_le_self _ h0
    simp only [e4]
    obtain ⟨u, hu⟩ : ∃ u, b.getD (Int.tmod p (b.length : Int)).toNat 0 = u := ⟨_, rfl⟩
    obtain ⟨w, hw⟩ : ∃ w, b.getD (Int.tmod (p * 7 + 3) (b.length : Int)).toNat 0 = w := ⟨_, rfl⟩
    obtain ⟨q, hq⟩ : ∃ q, Int.tdiv p (b.length : Int) = q := ⟨_, rfl⟩
    simp only [hu, hw, hq] at g1 g2 d1 d2 ⊢
    have e5 : w64 (w64 (w64 (w64 (w64 u * 131) + w64 (w64 w * 1117)) + w64 (p * 29)) + w64 (w64 q * 53)) = u * 131 + w * 1117 + p * 29 + q * 53 := by
      rw [w64_id (x := u), w64_id (x := u * 131), w64_id (x := w), w64_id (x := w * 1117), w64_id (x := p * 29), w64_id (x := q), w64_id (x := q * 53), w64_id (x := u * 131 + w * 1117), w64_id (x := u * 131 + w * 1117 + p * 29), w64_id] <;> omega
    simp only [e5]
    have e6 : w64 (Int.tdiv (u * 131 + w * 1117 + p * 29 + q * 53) 64) = (u * 131 + w * 1117 + p * 29 + q * 53) / 64 := by
      rw [Int.tdiv_eq_ediv_of_nonneg (by omega), w64_id] <;> omega
    rw [e6]
    refine Ret.tst t1 (Ret.tst (decide_eq_true m1) (Ret.tst (decide_eq_true m2) (Ret.tst t1 (Ret.tst (decide_eq_true m3) (Ret.tst (decide_eq_true m4) (Ret.tst t1 (Ret.tst t2 (Ret.ret ⟨hrd, ?_⟩))))))))
    exact hmod (xor_nonneg (by omega) (by omega) (by omega) (by omega))

theorem Rd.trans {b : List Int} {p q r : Int} {s t : List Int × Int × Unit} (h1 : Rd b p q s) (h2 : Rd b s.2.1 (s.2.1 + r) t) : Rd b p (q + r) t := ⟨h2.1, by have := h1.2; have := h2.2; omega, by have := h1.2; have := h2.2; omega⟩

theorem thing_ok (f : Nat) (b : List Int) (p : Int) (hb : Bytes b) (h0 : 0 ≤ p) (h1 : p ≤ 900000000) :
    Ret (spec_l71Thing_fn f ((b, p, ()), ())) fun s => Rd b p (p + 2) s.1 := by
  unfold spec_l71Thing_fn spec_l71Thing_pre
  have key : ∀ (s : List Int × Int × Unit) (n : Int), Rd b p (p + 1) s → 1 ≤ n → Ret (spec_l6Rd_pick_fn f ((s.1, s.2.1, ()), (n, ()), ())) fun t => Rd b p (p + 2) t.1 ∧ 0 ≤ t.2.1.1 ∧ t.2.1.1 < n := by
    intro s n hs hn
    rw [hs.1]
    refine (pick_ok f b s.2.1 n hb (by have := hs.2; omega) (by have := hs.2; omega) hn).mono fun t ht => ⟨?_, ht.2⟩
    have := hs.trans ht.1
    rwa [show p + 1 + 1 = p + 2 from by omega] at this
  refine Ret.bind (pick_ok f b p 12 hb h0 (by omega) (by omega)) fun y hy => ?_
  repeat' first
    | refine Ret.cond (fun _ => ?_) (fun _ => ?_)
  all_goals
    refine Ret.bind (key _ _ hy.1 (by omega)) fun z hz => ?_
    repeat' first
      | refine Ret.ret hz.1
      | refine Ret.tst ?_ ?_
    all_goals (have := hz.2; first | exact decide_eq_true (by omega) | exact decide_eq_true (by rw [zz_eq]; omega))

/-- All of them are things. -/
def Things (l : List Int) : Prop := ∀ x ∈ l, 0 ≤ x ∧ x ≤ 63
theorem things_loop (f : Nat) (b : List Int) (hb : Bytes b) : ∀ (fuel n : Nat) (v : spec_l71Things_V0), (v.1 = n ∧ n ≤ 41 ∧ v.2.1 = b ∧ 0 ≤ v.2.2.1 ∧ v.2.2.1 + 2 * n ≤ 800000000 ∧ v.2.2.2.length + n ≤ 41 ∧ Things v.2.2.2) → n < fuel →
    Ret (iter (spec_l71Things_st0 f) fuel v) fun s => Rd b v.2.2.1 (v.2.2.1 + 2 * n) s.1 ∧ s.2.1.1.length ≤ v.2.2.2.length + n ∧ Things s.2.1.1
  | 0, n, v, _, h => by omega
  | fuel + 1, n, v, ⟨h1, h2, h3, h4, h5, h6, ht⟩, hf => by
    rw [iter]
    show Ret (spec_l71Things_step0 f _ v) _
    unfold spec_l71Things_step0
    rw [h1, h3]
    refine Ret.cond (fun hc => ?_) fun hc => Ret.ret ⟨⟨rfl, Int.le_refl _, by show v.2.2.1 ≤ v.2.2.1 + 2 * (n : Int); omega⟩, by show v.2.2.2.length ≤ v.2.2.2.length + n; omega, ht⟩
    have hn : 0 < n := by have := of_decide_eq_true hc; omega
    have e : w64 ((n : Int) - 1) = ((n - 1 : Nat) : Int) := by rw [w64_id] <;> omega
    refine Ret.bind (thing_ok f b v.2.2.1 hb h4 (by omega)) fun y hy => ?_
    simp only [in_eq, Option.bind_some]
    have go : ∀ l : List Int, l.length ≤ v.2.2.2.length + 1 → Things l → Ret (iter (spec_l71Things_st0 f) fuel (w64 ((n : Int) - 1), y.1.1, y.1.2.1, l)) fun s => Rd b v.2.2.1 (v.2.2.1 + 2 * n) s.1 ∧ s.2.1.1.length ≤ v.2.2.2.length + n ∧ Things s.2.1.1 := by
      intro l hl hth
      refine (things_loop f b hb fuel (n - 1) (w64 ((n : Int) - 1), y.1.1, y.1.2.1, l) ⟨e, by omega, hy.1, by have := hy.2; show 0 ≤ y.1.2.1; omega, by have := hy.2; show y.1.2.1 + 2 * ((n - 1 : Nat) : Int) ≤ 800000000; omega, by show l.length + (n - 1) ≤ 41; omega, hth⟩ (by omega)).mono fun s hs => ⟨?_, ?_, hs.2.2⟩
      · have h7 := hs.1
        have h8 := hy.2
        exact ⟨h7.1, by have := h7.2.1; simp only at this; omega, by have := h7.2.2; simp only at this; omega⟩
      · have := hs.2.1; simp only at this; omega
    refine Ret.cond (fun hd => Ret.tst ?_ (go _ (by simp) ?_)) fun _ => go _ (by omega) ht
    · simp [LIM]; omega
    · intro x hx
      rcases List.mem_append.mp hx with h | h
      · exact ht x h
      · rw [List.mem_singleton.mp h]; exact of_decide_eq_true hd

theorem things_ok (f : Nat) (b : List Int) (p m : Int) (hb : Bytes b) (h0 : 0 ≤ p) (h1 : p ≤ 700000000) (hm : 0 ≤ m ∧ m ≤ 40) (hf : 50 < f) :
    Ret (spec_l71Things_fn f ((b, p, ()), (m, ()), ())) fun s => Rd b p (p + 90) s.1 ∧ (s.2.1.1.length : Int) ≤ m ∧ Things s.2.1.1 := by
  unfold spec_l71Things_fn spec_l71Things_pre
  have e : w64 (m + 1) = m + 1 := by rw [w64_id] <;> omega
  simp only [e]
  refine Ret.bind (pick_ok f b p (m + 1) hb h0 (by omega) (by omega)) fun y hy => ?_
  have := hy.1.2
  have hn : y.2.1.1 = ((y.2.1.1.toNat : Nat) : Int) := by have := hy.2.1; omega
  refine (things_loop f b hb f y.2.1.1.toNat (y.2.1.1, y.1.1, y.1.2.1, []) ⟨hn, ?_, hy.1.1, ?_, ?_, ?_, fun x hx => by cases hx⟩ ?_).mono fun s hs => ⟨⟨hs.1.1, ?_, ?_⟩, ?_, hs.2.2⟩
  · have := hy.2; omega
  · show 0 ≤ y.1.2.1; omega
  · show y.1.2.1 + 2 * ((y.2.1.1.toNat : Nat) : Int) ≤ 800000000; have := hy.2; omega
  · show ([] : List Int).length + y.2.1.1.toNat ≤ 41; have := hy.2; simp; omega
  · have := hy.2; omega
  · have := hs.1.2.1; simp only at this; omega
  · have := hs.1.2.2; simp only at this; have := hy.2; omega
  · have := hs.2.1; simp at this; have := hy.2; omega

theorem add_any (f : Nat) (ks : List Knot) (all t : Int) (hl : ks.length < 4294967296) (hf : ks.length < f) (hf2 : 128 < f) : Ret (spec_RankAdd_fn f ((ks, all, ()), (t, ()), ())) fun s => s.1.1.length ≤ 127 ∧ 0 ≤ s.1.2.1 ∧ s.1.2.1 ≤ 2000 := by
  rw [specAdd_eq f ks all t hl hf hf2]
  cases hc : addB ks all t with
  | true =>
    rw [if_pos rfl]
    have h : (addS ks all t).length ≤ 127 := addS_len
    generalize addS ks all t = l at h
    have b : 0 ≤ all ∧ all < 2000 := by
      unfold addB at hc
      simp only [Bool.and_eq_true, decide_eq_true_eq] at hc
      have h2 := hc.1
      unfold okB at h2
      split at h2
      · cases h2
      · omega
    have e : w64 (all + 1) = all + 1 := by rw [w64_id] <;> omega
    exact Ret.ret ⟨h, by show 0 ≤ w64 (all + 1); omega, by show w64 (all + 1) ≤ 2000; omega⟩
  | false =>
    rw [if_neg (by simp)]
    exact Ret.ret ⟨by simp, by show (0 : Int) ≤ 0; omega, by show (0 : Int) ≤ 2000; omega⟩

/-- What a draw of knots may be. -/
def Drawn (s : List Int × Int × Unit) (p : Int) (b : List Int) (ks : List Knot) : Prop := Rd b p (p + 100) s ∧ ks.length ≤ 128

theorem rank_loop (f : Nat) (b : List Int) (hb : Bytes b) (things : List Int) (hth : things.length ≤ 41) (hf : 200 < f) : ∀ (d i fuel : Nat) (p all u : Int) (ks : List Knot), i + d = things.length → 0 ≤ p → p ≤ 800000000 → ks.length ≤ 127 → 0 ≤ all ∧ all ≤ 2000 → d < fuel →
    Ret (iter (spec_l71Rank_st0 f) fuel ((i : Int), things, b, p, all, u, ks)) fun s => Rd b p (p + 10) s.1 ∧ s.2.1.1.length ≤ 128 ∧ 0 ≤ s.2.1.2.1 ∧ s.2.1.2.1 ≤ 2001
  | d, i, 0, p, all, u, ks, hi, h0, h1, hk, hal, hd => by omega
  | d, i, fuel + 1, p, all, u, ks, hi, h0, h1, hk, hal, hd => by
    have ew : w64 (all + 1) = all + 1 := by rw [w64_id] <;> omega
    rw [iter]
    show Ret (spec_l71Rank_step0 f _ _) _
    unfold spec_l71Rank_step0
    simp only [zz_eq, Int.toNat_natCast]
    refine Ret.cond (fun hc => ?_) fun hc => ?_
    · have hc' : (i : Int) < (things.length : Int) := of_decide_eq_true hc
      refine Ret.tst (by simp) (Ret.tst hc ?_)
      refine Ret.bind (add_any f ks all _ (by omega) (by omega) (by omega)) fun y hy => ?_
      have e : w64 ((i : Int) + 1) = ((i + 1 : Nat) : Int) := by rw [w64_id] <;> omega
      rw [e]
      exact rank_loop f b hb things hth hf (d - 1) (i + 1) fuel p y.1.2.1 u y.1.1 (by omega) h0 h1 hy.1 hy.2 (by omega)
    · have key : ∀ (s : List Int × Int × Unit) (q n : Int), Rd b p q s → q ≤ p + 5 → 1 ≤ n → Ret (spec_l6Rd_pick_fn f ((s.1, s.2.1, ()), (n, ()), ())) fun t => Rd b p (q + 1) t.1 ∧ 0 ≤ t.2.1.1 ∧ t.2.1.1 < n := by
        intro s q n hs hq hn
        rw [hs.1]
        exact (pick_ok f b s.2.1 n hb (by have := hs.2; omega) (by have := hs.2; omega) hn).mono fun t ht => ⟨hs.trans ht.1, ht.2⟩
      refine Ret.bind (pick_ok f b p 24 hb h0 (by omega) (by omega)) fun y hy => ?_
      have w10 : ∀ {s : List Int × Int × Unit} {q : Int}, Rd b p q s → q ≤ p + 5 → Rd b p (p + 10) s := fun h h2 => ⟨h.1, h.2.1, by have := h.2.2; omega⟩
      refine Ret.cond (fun _ => Ret.ret ⟨w10 hy.1 (by omega), by show ks.length ≤ 128; omega, by show 0 ≤ w64 (all + 1); omega, by show w64 (all + 1) ≤ 2001; omega⟩) fun _ => ?_
      refine Ret.cond (fun _ => ?_) fun _ => ?_
      · refine Ret.bind (key _ _ _ hy.1 (by omega) (by omega)) fun z hz => ?_
        refine Ret.tst (decide_eq_true hz.2.1) (Ret.tst (decide_eq_true (by have := hz.2.2; show z.2.1.1 < ((3 : Nat) : Int); omega)) (Ret.tst ?_ (Ret.ret ⟨w10 hz.1 (by omega), ?_, by show 0 ≤ w64 (all + 1); omega, by show w64 (all + 1) ≤ 2001; omega⟩)))
        · simp [LIM]; omega
        · show (ks ++ [_]).length ≤ 128; simp; omega
      · refine Ret.cond (fun _ => ?_) fun _ => Ret.ret ⟨w10 hy.1 (by omega), by show ks.length ≤ 128; omega, hal.1, by show all ≤ 2001; omega⟩
        refine Ret.bind (key _ _ _ hy.1 (by omega) (by omega)) fun z hz => ?_
        refine Ret.bind (key _ _ _ hz.1 (by omega) (by omega)) fun z2 hz2 => ?_
        refine Ret.tst ?_ (Ret.ret ⟨w10 hz2.1 (by omega), ?_, hal.1, by show all ≤ 2001; omega⟩)
        · simp [LIM]; omega
        · show ([_] ++ ks).length ≤ 128; simp; omega

theorem rank_ok2 (f : Nat) (b : List Int) (p : Int) (hb : Bytes b) (h0 : 0 ≤ p) (h1 : p ≤ 600000000) (hf : 200 < f) :
    Ret (spec_l71Rank_fn f ((b, p, ()), ())) fun s => Drawn s.1 p b s.2.1.1 ∧ 0 ≤ s.2.1.2.1 ∧ s.2.1.2.1 ≤ 2001 := by
  unfold spec_l71Rank_fn spec_l71Rank_pre
  refine Ret.bind (things_ok f b p 40 hb h0 (by omega) (by omega) (by omega)) fun y hy => ?_
  have := hy.1.2
  rw [hy.1.1]
  have hl41 : y.2.1.1.length ≤ 41 := by have := hy.2.1; omega
  refine (rank_loop f b hb y.2.1.1 hl41 hf y.2.1.1.length 0 f y.1.2.1 0 0 [] (by omega) (by omega) (by omega) (by simp) (by omega) (by omega)).mono fun s hs => ⟨⟨⟨hs.1.1, ?_, ?_⟩, hs.2.1⟩, hs.2.2⟩
  · have := hs.1.2.1; omega
  · have := hs.1.2.2; omega
theorem rank_ok (f : Nat) (b : List Int) (p : Int) (hb : Bytes b) (h0 : 0 ≤ p) (h1 : p ≤ 600000000) (hf : 200 < f) :
    Ret (spec_l71Rank_fn f ((b, p, ()), ())) fun s => Drawn s.1 p b s.2.1.1 := (rank_ok2 f b p hb h0 h1 hf).mono fun s h => h.1

theorem open_ok (f : Nat) (code : List Int) (hb : ∀ x ∈ code, 0 ≤ x ∧ x ≤ 255) : Ret (spec_l6Open_fn f ((code, ()), ())) fun s => Bytes s.1 ∧ s.2.1 = 0 := by
  show Ret (spec_l6Open_pre f code) _
  unfold spec_l6Open_pre
  have e := zz_eq code.length
  refine Ret.cond (fun h => Ret.tst ?_ (Ret.ret ⟨⟨?_, fun x hx => hb x ?_⟩, rfl⟩)) fun h => Ret.ret ⟨⟨?_, hb⟩, rfl⟩
  · have := of_decide_eq_true h; exact decide_eq_true (by omega)
  · show (List.drop 0 (List.take (Int.toNat 2000) code)).length ≤ 2000
    rw [List.drop_zero, List.length_take]; exact Nat.min_le_left _ _
  · exact List.mem_of_mem_take (List.mem_of_mem_drop hx)
  · have := of_decide_eq_false h; show code.length ≤ 2000; omega

end Go.Proofs.Ytjnkefbdpcbkmaa.Den
