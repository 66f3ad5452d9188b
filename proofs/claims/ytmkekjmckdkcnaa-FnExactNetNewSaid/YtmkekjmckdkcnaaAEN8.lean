/- Part 8 of the texts behind the row. -/
import Derived.Test.YtmkekjmckdkcnaaAEN7
set_option linter.unusedVariables false
set_option linter.unusedSimpArgs false
namespace Go.Proofs.Ytmkekjmckdkcnaa.Den
open Go
theorem lim_of {n : Nat} (h : n ≤ 1048576) : n < LIM := by unfold LIM; omega
def szK : (K : Kd) → K.T → Nat
  | .int _, _ => 0
  | .bool, _ => 0
  | .unit, _ => 0
  | .pair a b, x => szK a x.1 + szK b x.2
  | .list e, xs => xs.length + (xs.map (szK e)).sum
theorem zhz : ∀ {K : Kd} {x : K.T}, K.noList = true → szK K x = 0
  | .int _, _, _ => rfl
  | .bool, _, _ => rfl
  | .unit, _, _ => rfl
  | .pair a b, x, h => by
    simp only [Kd.noList, Bool.and_eq_true] at h
    simp [szK, zhz h.1, zhz h.2]
theorem sum_mem {α : Type} {f : α → Nat} : ∀ {xs : List α} {x : α}, x ∈ xs → f x ≤ (xs.map f).sum
  | y :: xs, x, h => by
    simp only [List.map_cons, List.sum_cons]
    rcases List.mem_cons.1 h with rfl | h
    · omega
    · have := sum_mem (f := f) h; omega
theorem szK_mem {e : Kd} {xs : List e.T} {x : e.T} (h : x ∈ xs) : szK e x + xs.length ≤ szK (.list e) xs := by
  have := sum_mem (f := szK e) h
  simp only [szK]; omega
theorem szK_len {e : Kd} {xs : List e.T} : xs.length ≤ szK (.list e) xs := by simp only [szK]; omega
def markK : (K : Kd) → K.T → Int → K.T × Int
  | .int _, _, k => (k, k + 1)
  | .bool, _, k => (k.tmod 3 == 0, k + 1)
  | .unit, _, k => ((), k)
  | .pair a b, x, k => (((markK a x.1 k).1, (markK b x.2 (markK a x.1 k).2).1), (markK b x.2 (markK a x.1 k).2).2)
  | .list e, xs, k => xs.foldl (fun (p : List e.T × Int) x => (p.1 ++ [(markK e x p.2).1], (markK e x p.2).2)) ([], k)
def flK : Kd → Nat
  | .int _ => 1
  | .bool => 1
  | .unit => 0
  | .pair a b => flK a + flK b
  | .list _ => 0
def wdK : Kd → Nat
  | .pair a b => max (wdK a) (wdK b)
  | .list e => max (flK e) (wdK e)
  | _ => 0
theorem zhA {e : Kd} : ∀ (xs : List e.T) (p : List e.T) (k : Int), xs.foldl (fun (p : List e.T × Int) x => (p.1 ++ [(markK e x p.2).1], (markK e x p.2).2)) (p, k) =
    (p ++ (markK (.list e) xs k).1, (markK (.list e) xs k).2)
  | [], p, k => by simp [markK]
  | x :: xs, p, k => by
    have e : markK (.list e) (x :: xs) k = (x :: xs).foldl (fun (p : List e.T × Int) x => (p.1 ++ [(markK e x p.2).1], (markK e x p.2).2)) ([], k) := rfl
    rw [e, List.foldl_cons, List.foldl_cons, zhA xs, zhA xs]
    simp
theorem zmE {e : Kd} {k : Int} : markK (.list e) ([] : List e.T) k = ([], k) := rfl
theorem zhB {e : Kd} {x : e.T} {xs : List e.T} {k : Int} : markK (.list e) (x :: xs) k = ((markK e x k).1 :: (markK (.list e) xs (markK e x k).2).1, (markK (.list e) xs (markK e x k).2).2) := by
  rw [markK, List.foldl_cons, zhA]; rfl
theorem wd_le {e : Kd} {w : Nat} (h : wdK (.list e) ≤ w) : flK e ≤ w ∧ wdK e ≤ w := by simp only [wdK] at h; omega
theorem zk : ∀ {K : Kd} {x : K.T} {k : Int} (w : Nat), wdK K ≤ w → k ≤ (markK K x k).2 ∧ (markK K x k).2 ≤ k + flK K + ((w * szK K x : Nat) : Int)
  | .int _, x, k, w, _ => by simp only [markK, flK, szK]; omega
  | .bool, x, k, w, _ => by simp only [markK, flK, szK]; omega
  | .unit, x, k, w, _ => by simp only [markK, flK, szK]; omega
  | .pair a b, x, k, w, h => by
    simp only [wdK] at h
    have h1 := zk (K := a) (x := x.1) (k := k) w (by omega)
    have h2 := zk (K := b) (x := x.2) (k := (markK a x.1 k).2) w (by omega)
    simp only [markK, flK, szK]
    rw [Nat.mul_add]
    omega
  | .list e, xs, k, w, h => by
    obtain ⟨h1, h2⟩ := wd_le h
    have : ∀ (xs : List e.T) (k : Int), k ≤ (markK (.list e) xs k).2 ∧ (markK (.list e) xs k).2 ≤ k + ((w * szK (.list e) xs : Nat) : Int) := by
      intro xs
      induction xs with
      | nil => intro k; rw [zmE]; simp [szK]
      | cons x xs ih =>
        intro k
        rw [zhB]
        have h3 := zk (K := e) (x := x) (k := k) w h2
        have h4 := ih (markK e x k).2
        simp only [szK, List.map_cons, List.sum_cons, List.length_cons] at h4 ⊢
        have e1 : w * (xs.length + 1 + (szK e x + (xs.map (szK e)).sum)) = w * (xs.length + (xs.map (szK e)).sum) + w * szK e x + w := by simp only [Nat.mul_add]; omega
        omega
    simpa [flK] using this xs k
theorem zaP {e : Kd} {g : e.T → Int → Option (e.T × Int)} {w B : Nat} : ∀ {xs : List e.T} {k : Int}, wdK (.list e) ≤ w → (∀ x ∈ xs, ∀ k : Int, 0 ≤ k → k + flK e + ((w * szK e x : Nat) : Int) ≤ B → g x k = some (markK e x k)) → 0 ≤ k → k + ((w * szK (.list e) xs : Nat) : Int) ≤ B → markO g xs k = some (markK (.list e) xs k)
  | [], k, _, _, _, _ => rfl
  | x :: xs, k, hw, hg, h0, h1 => by
    obtain ⟨h2, h3⟩ := wd_le hw
    have h4 := zk (K := e) (x := x) (k := k) w h3
    simp only [szK, List.map_cons, List.sum_cons, List.length_cons] at h1
    have e1 : w * (xs.length + 1 + (szK e x + (xs.map (szK e)).sum)) = w * (xs.length + (xs.map (szK e)).sum) + w * szK e x + w := by simp only [Nat.mul_add]; omega
    rw [markO, hg x (by simp) k h0 (by omega), Option.bind_some, zaP hw (fun y hy => hg y (by simp [hy])) (by omega) (by simp only [szK]; omega), zhB]
    rfl
end Go.Proofs.Ytmkekjmckdkcnaa.Den
namespace Go.Proofs.Ytmkekjmckdkcnaa.Den
open Go
theorem getD_in {α : Type} {xs : List α} {i : Nat} (h : i < xs.length) (d : α) : xs.getD i d ∈ xs := by
  rw [List.getD_eq_getElem?_getD, List.getElem?_eq_getElem h]; exact List.getElem_mem h
theorem zsG (f : Nat) (l : List Int) (hl : l.length ≤ 1048576) (hf : 1048576 < f) : zM f ((l, ()), ()) = some ((l, ()), ()) := by
  show zdf f (iter (zde f) f) l = _
  unfold zdf
  have h1 := lim_of hl
  simp only [zz_eq, Int.toNat_natCast, Int.natCast_nonneg, Int.le_refl, h1, decide_true, cond_true]
  refine (zst (st := zde f) (enc := fun i out => ((i : Int), l, out)) (fun out => some ((out, ()), ())) l 0 id ?_ ?_ f 0 (by omega)).trans (by rw [List.map_id])
  · intro i out g hi ho
    show zaV f g _ = _
    unfold zaV
    have ho' : i < out.length := by omega
    simp only [zz_eq, lt_cast hi, lt_cast ho', ho', le_cast, decide_true, cond_true, Int.toNat_natCast, w64_up (show i < 4294967296 by omega)]
    rfl
  · intro s g
    show zaV f g _ = _
    unfold zaV
    simp only [zz_eq, zj, decide_false, cond_false]
theorem zhC (f : Nat) (l : List Int) (hl : l.length ≤ 1048576) (hf : 1048576 < f) : zS f ((l, ()), (l, ()), ()) = some ((true, ()), ()) := by
  show zdm f (iter (zdl f) f) l l = _
  unfold zdm
  simp only [bne_self_eq_false, cond_false]
  refine zA (st := zdl f) (enc := fun i => ((i : Int), l, l)) _ l.length ?_ ?_ l.length 0 f (by omega) (by omega)
  · intro i g hi
    show zbs f g _ = _
    unfold zbs
    simp only [zz_eq, lt_cast hi, le_cast, decide_true, cond_true, Int.toNat_natCast, w64_up (show i < 4294967296 by omega), bne_self_eq_false, beq_self_eq_true, cond_false, Bool.not_true]
  · intro g
    show zbs f g _ = _
    unfold zbs
    simp only [zz_eq, zj, decide_false, cond_false]
theorem zsH (f : Nat) (l : List Bool) (hl : l.length ≤ 1048576) (hf : 1048576 < f) : zdR f ((l, ()), (l, ()), ()) = some ((true, ()), ()) := by
  show zdQ f (iter (zdP f) f) l l = _
  unfold zdQ
  simp only [bne_self_eq_false, cond_false]
  refine zA (st := zdP f) (enc := fun i => ((i : Int), l, l)) _ l.length ?_ ?_ l.length 0 f (by omega) (by omega)
  · intro i g hi
    show zb0 f g _ = _
    unfold zb0
    simp only [zz_eq, lt_cast hi, le_cast, decide_true, cond_true, Int.toNat_natCast, w64_up (show i < 4294967296 by omega), bne_self_eq_false, beq_self_eq_true, cond_false, Bool.not_true]
  · intro g
    show zb0 f g _ = _
    unfold zb0
    simp only [zz_eq, zj, decide_false, cond_false]
theorem zsI (f : Nat) (l : LP) (hl : l.length ≤ 1048576) (hf : 1048576 < f) : zdx f ((l, ()), (l, ()), ()) = some ((true, ()), ()) := by
  show zdw f (iter (zdv f) f) l l = _
  unfold zdw
  simp only [bne_self_eq_false, cond_false]
  have ek : ∀ x y : Int, zdt f ((x, y, ()), (x, y, ()), ()) = some ((true, ()), ()) := fun x y => by
    show zfs f x y x y = _
    unfold zfs
    simp
  refine zA (st := zdv f) (enc := fun i => ((i : Int), l, l)) _ l.length ?_ ?_ l.length 0 f (by omega) (by omega)
  · intro i g hi
    show zbD f g _ = _
    unfold zbD
    simp only [zz_eq, lt_cast hi, le_cast, decide_true, cond_true, Int.toNat_natCast, w64_up (show i < 4294967296 by omega), bne_self_eq_false, beq_self_eq_true, cond_false, ek, Option.bind_some, Bool.not_true]
  · intro g
    show zbD f g _ = _
    unfold zbD
    simp only [zz_eq, zj, decide_false, cond_false]
theorem zsJ (f : Nat) (l : LP) (hl : l.length ≤ 1048576) (hf : 1048576 < f) : zdD f ((l, ()), (l, ()), ()) = some ((true, ()), ()) := by
  show zdC f (iter (zdB f) f) l l = _
  unfold zdC
  simp only [bne_self_eq_false, cond_false]
  have ek : ∀ x y : Int, zdz f ((x, y, ()), (x, y, ()), ()) = some ((true, ()), ()) := fun x y => by
    show zfz f x y x y = _
    unfold zfz
    simp
  refine zA (st := zdB f) (enc := fun i => ((i : Int), l, l)) _ l.length ?_ ?_ l.length 0 f (by omega) (by omega)
  · intro i g hi
    show zbI f g _ = _
    unfold zbI
    simp only [zz_eq, lt_cast hi, le_cast, decide_true, cond_true, Int.toNat_natCast, w64_up (show i < 4294967296 by omega), bne_self_eq_false, beq_self_eq_true, cond_false, ek, Option.bind_some, Bool.not_true]
  · intro g
    show zbI f g _ = _
    unfold zbI
    simp only [zz_eq, zj, decide_false, cond_false]
theorem zmF (f : Nat) (hf : 1048576 < f) (l : List (Kd.T (.list I6))) (hl : szK (.list (.list I6)) l ≤ 1048576) : zag f ((l, ()), (l, ()), ()) = some ((true, ()), ()) := by
  have hl' : l.length ≤ 1048576 := Nat.le_trans szK_len hl
  show zdp f (iter (zdo f) f) l l = _
  unfold zdp
  simp only [bne_self_eq_false, cond_false]
  refine zA (st := zdo f) (enc := fun i => ((i : Int), l, l)) _ l.length ?_ ?_ l.length 0 f (by omega) (by omega)
  · intro i g hi
    show zby f g _ = _
    unfold zby
    have hx := szK_mem (getD_in hi ([] : Kd.T (.list I6)))
    have he : zS f (((l.getD i []), ()), ((l.getD i []), ()), ()) = some ((true, ()), ()) := zhC f _ (by have := szK_len (e := I6) (xs := l.getD i []); omega) hf
    simp only [zz_eq, lt_cast hi, le_cast, decide_true, cond_true, Int.toNat_natCast, w64_up (show i < 4294967296 by omega)]
    rw [he]
    rfl
  · intro g
    show zby f g _ = _
    unfold zby
    simp only [zz_eq, zj, decide_false, cond_false]
theorem zsK (f : Nat) (hf : 1048576 < f) (l : List (Kd.T (.list (.list I6)))) (hl : szK (.list (.list (.list I6))) l ≤ 1048576) : zdZ f ((l, ()), (l, ()), ()) = some ((true, ()), ()) := by
  have hl' : l.length ≤ 1048576 := Nat.le_trans szK_len hl
  show zdY f (iter (zdX f) f) l l = _
  unfold zdY
  simp only [bne_self_eq_false, cond_false]
  refine zA (st := zdX f) (enc := fun i => ((i : Int), l, l)) _ l.length ?_ ?_ l.length 0 f (by omega) (by omega)
  · intro i g hi
    show zcb f g _ = _
    unfold zcb
    have hx := szK_mem (getD_in hi ([] : Kd.T (.list (.list I6))))
    have he : zag f (((l.getD i []), ()), ((l.getD i []), ()), ()) = some ((true, ()), ()) := zmF f hf _ (by omega)
    simp only [zz_eq, lt_cast hi, le_cast, decide_true, cond_true, Int.toNat_natCast, w64_up (show i < 4294967296 by omega)]
    rw [he]
    rfl
  · intro g
    show zcb f g _ = _
    unfold zcb
    simp only [zz_eq, zj, decide_false, cond_false]
theorem zsL (f : Nat) (hf : 1048576 < f) (s : Kd.T KS) (hl : szK KS s ≤ 1048576) : zdF f ((s.1.1, s.2.1.1, s.2.2.1.1, s.2.2.1.2.1, s.2.2.1.2.2.1, s.2.2.2.1.1, s.2.2.2.1.2.1, ()), (s.1.1, s.2.1.1, s.2.2.1.1, s.2.2.1.2.1, s.2.2.1.2.2.1, s.2.2.2.1.1, s.2.2.2.1.2.1, ()), ()) = some ((true, ()), ()) := by
  obtain ⟨⟨rs, ⟨⟩⟩, ⟨ms, ⟨⟩⟩, ⟨ps, lost, tall, ⟨⟩⟩, ⟨ks, rall, ⟨⟩⟩, ⟨⟩⟩ := s
  have e : szK KS ((rs, ()), (ms, ()), (ps, lost, tall, ()), (ks, rall, ()), ()) = szK (.list (.list I6)) rs + (szK (.list I6) ms + (szK (.list KP) ps + (szK (.list KP) ks + 0))) := by
    simp only [szK]; omega
  rw [e] at hl
  have l2 := szK_len (e := I6) (xs := ms); have l3 := szK_len (e := KP) (xs := ps); have l4 := szK_len (e := KP) (xs := ks)
  show zfG f rs ms ps lost tall ks rall rs ms ps lost tall ks rall = _
  unfold zfG
  have e1 : zdr f ((rs, ()), (rs, ()), ()) = some ((true, ()), ()) := by
    show zfm f rs rs = _
    unfold zfm; rw [zmF f hf rs (by omega)]; rfl
  have e2 : zds f ((ms, ()), (ms, ()), ()) = some ((true, ()), ()) := by
    show zfp f ms ms = _
    unfold zfp; rw [zhC f ms (by omega) hf]; rfl
  have e3 : zdy f ((ps, lost, tall, ()), (ps, lost, tall, ()), ()) = some ((true, ()), ()) := by
    show zfw f ps lost tall ps lost tall = _
    unfold zfw; rw [zsI f ps (by omega) hf]; simp
  have e4 : zdE f ((ks, rall, ()), (ks, rall, ()), ()) = some ((true, ()), ()) := by
    show zfD f ks rall ks rall = _
    unfold zfD; rw [zsJ f ks (by omega) hf]; simp
  rw [e1, Option.bind_some, e2, Option.bind_some, e3, Option.bind_some, e4]; rfl
theorem zsM (f : Nat) (hf : 1048576 < f) (x : EntY) (hl : szK KE x ≤ 1048576) : zbJ f ((x.1, x.2.1, x.2.2.1, x.2.2.2.1.1.1, x.2.2.2.1.2.1.1, x.2.2.2.1.2.2.1.1, x.2.2.2.1.2.2.1.2.1, x.2.2.2.1.2.2.1.2.2.1, x.2.2.2.1.2.2.2.1.1, x.2.2.2.1.2.2.2.1.2.1, ()), (x.1, x.2.1, x.2.2.1, x.2.2.2.1.1.1, x.2.2.2.1.2.1.1, x.2.2.2.1.2.2.1.1, x.2.2.2.1.2.2.1.2.1, x.2.2.2.1.2.2.1.2.2.1, x.2.2.2.1.2.2.2.1.1, x.2.2.2.1.2.2.2.1.2.1, ()), ()) = some ((true, ()), ()) := by
  show zfJ f (x.1) (x.2.1) (x.2.2.1) (x.2.2.2.1.1.1) (x.2.2.2.1.2.1.1) (x.2.2.2.1.2.2.1.1) (x.2.2.2.1.2.2.1.2.1) (x.2.2.2.1.2.2.1.2.2.1) (x.2.2.2.1.2.2.2.1.1) (x.2.2.2.1.2.2.2.1.2.1) (x.1) (x.2.1) (x.2.2.1) (x.2.2.2.1.1.1) (x.2.2.2.1.2.1.1) (x.2.2.2.1.2.2.1.1) (x.2.2.2.1.2.2.1.2.1) (x.2.2.2.1.2.2.1.2.2.1) (x.2.2.2.1.2.2.2.1.1) (x.2.2.2.1.2.2.2.1.2.1) = _
  unfold zfJ
  have e : szK KE x = szK KS x.2.2.2.1 := by simp only [szK]; omega
  rw [zsL f hf x.2.2.2.1 (by omega)]
  simp only [bne_self_eq_false, cond_false, Option.bind_some, Bool.not_true]
theorem zmG (f : Nat) (hf : 1048576 < f) (l : List (Kd.T KE)) (hl : szK (.list KE) l ≤ 1048576) : zbP f ((l, ()), (l, ()), ()) = some ((true, ()), ()) := by
  have hl' : l.length ≤ 1048576 := Nat.le_trans szK_len hl
  show zdI f (iter (zdH f) f) l l = _
  unfold zdI
  simp only [bne_self_eq_false, cond_false]
  refine zA (st := zdH f) (enc := fun i => ((i : Int), l, l)) _ l.length ?_ ?_ l.length 0 f (by omega) (by omega)
  · intro i g hi
    show zbO f g _ = _
    unfold zbO
    have hx := szK_mem (getD_in hi (dE : Kd.T KE))
    have he : zbJ f (((l.getD i dE).1, (l.getD i dE).2.1, (l.getD i dE).2.2.1, (l.getD i dE).2.2.2.1.1.1, (l.getD i dE).2.2.2.1.2.1.1, (l.getD i dE).2.2.2.1.2.2.1.1, (l.getD i dE).2.2.2.1.2.2.1.2.1, (l.getD i dE).2.2.2.1.2.2.1.2.2.1, (l.getD i dE).2.2.2.1.2.2.2.1.1, (l.getD i dE).2.2.2.1.2.2.2.1.2.1, ()), ((l.getD i dE).1, (l.getD i dE).2.1, (l.getD i dE).2.2.1, (l.getD i dE).2.2.2.1.1.1, (l.getD i dE).2.2.2.1.2.1.1, (l.getD i dE).2.2.2.1.2.2.1.1, (l.getD i dE).2.2.2.1.2.2.1.2.1, (l.getD i dE).2.2.2.1.2.2.1.2.2.1, (l.getD i dE).2.2.2.1.2.2.2.1.1, (l.getD i dE).2.2.2.1.2.2.2.1.2.1, ()), ()) = some ((true, ()), ()) := zsM f hf _ (by omega)
    simp only [zz_eq, lt_cast hi, le_cast, decide_true, cond_true, Int.toNat_natCast, w64_up (show i < 4294967296 by omega)]
    rw [he]
    rfl
  · intro g
    show zbO f g _ = _
    unfold zbO
    simp only [zz_eq, zj, decide_false, cond_false]
theorem zsN (f : Nat) (hf : 1048576 < f) (x : NodY) (hl : szK KN x ≤ 1048576) : zbQ f ((x.1, x.2.1, x.2.2.1, x.2.2.2.1, x.2.2.2.2.1, ()), (x.1, x.2.1, x.2.2.1, x.2.2.2.1, x.2.2.2.2.1, ()), ()) = some ((true, ()), ()) := by
  show zfM f (x.1) (x.2.1) (x.2.2.1) (x.2.2.2.1) (x.2.2.2.2.1) (x.1) (x.2.1) (x.2.2.1) (x.2.2.2.1) (x.2.2.2.2.1) = _
  unfold zfM
  have e : szK KN x = szK (.list KE) x.2.1 := by simp only [szK]; omega
  rw [zmG f hf x.2.1 (by omega)]
  simp only [bne_self_eq_false, cond_false, Option.bind_some, Bool.not_true]
theorem zsO (f : Nat) (hf : 1048576 < f) (x : WorY) (hl : szK KW x ≤ 1048576) : zb1 f ((x.1, x.2.1, x.2.2.1, x.2.2.2.1, x.2.2.2.2.1, x.2.2.2.2.2.1, ()), (x.1, x.2.1, x.2.2.1, x.2.2.2.1, x.2.2.2.2.1, x.2.2.2.2.2.1, ()), ()) = some ((true, ()), ()) := by
  show zfR f (x.1) (x.2.1) (x.2.2.1) (x.2.2.2.1) (x.2.2.2.2.1) (x.2.2.2.2.2.1) (x.1) (x.2.1) (x.2.2.1) (x.2.2.2.1) (x.2.2.2.2.1) (x.2.2.2.2.2.1) = _
  unfold zfR
  have e : szK KW x = szK (.list KE) x.2.2.2.2.2.1 := by simp only [szK]; omega
  rw [zmG f hf x.2.2.2.2.2.1 (by omega)]
  simp only [bne_self_eq_false, cond_false, Option.bind_some, Bool.not_true]
theorem zsP (f : Nat) (hf : 1048576 < f) (l : List (Kd.T KN)) (hl : szK (.list KN) l ≤ 1048576) : zdN f ((l, ()), (l, ()), ()) = some ((true, ()), ()) := by
  have hl' : l.length ≤ 1048576 := Nat.le_trans szK_len hl
  show zdM f (iter (zdL f) f) l l = _
  unfold zdM
  simp only [bne_self_eq_false, cond_false]
  refine zA (st := zdL f) (enc := fun i => ((i : Int), l, l)) _ l.length ?_ ?_ l.length 0 f (by omega) (by omega)
  · intro i g hi
    show zbV f g _ = _
    unfold zbV
    have hx := szK_mem (getD_in hi (dN : Kd.T KN))
    have he : zbQ f (((l.getD i dN).1, (l.getD i dN).2.1, (l.getD i dN).2.2.1, (l.getD i dN).2.2.2.1, (l.getD i dN).2.2.2.2.1, ()), ((l.getD i dN).1, (l.getD i dN).2.1, (l.getD i dN).2.2.1, (l.getD i dN).2.2.2.1, (l.getD i dN).2.2.2.2.1, ()), ()) = some ((true, ()), ()) := zsN f hf _ (by omega)
    simp only [zz_eq, lt_cast hi, le_cast, decide_true, cond_true, Int.toNat_natCast, w64_up (show i < 4294967296 by omega)]
    rw [he]
    rfl
  · intro g
    show zbV f g _ = _
    unfold zbV
    simp only [zz_eq, zj, decide_false, cond_false]
theorem zsQ (f : Nat) (hf : 1048576 < f) (l : List (Kd.T KW)) (hl : szK (.list KW) l ≤ 1048576) : zdV f ((l, ()), (l, ()), ()) = some ((true, ()), ()) := by
  have hl' : l.length ≤ 1048576 := Nat.le_trans szK_len hl
  show zdU f (iter (zdT f) f) l l = _
  unfold zdU
  simp only [bne_self_eq_false, cond_false]
  refine zA (st := zdT f) (enc := fun i => ((i : Int), l, l)) _ l.length ?_ ?_ l.length 0 f (by omega) (by omega)
  · intro i g hi
    show zb6 f g _ = _
    unfold zb6
    have hx := szK_mem (getD_in hi (dW : Kd.T KW))
    have he : zb1 f (((l.getD i dW).1, (l.getD i dW).2.1, (l.getD i dW).2.2.1, (l.getD i dW).2.2.2.1, (l.getD i dW).2.2.2.2.1, (l.getD i dW).2.2.2.2.2.1, ()), ((l.getD i dW).1, (l.getD i dW).2.1, (l.getD i dW).2.2.1, (l.getD i dW).2.2.2.1, (l.getD i dW).2.2.2.2.1, (l.getD i dW).2.2.2.2.2.1, ()), ()) = some ((true, ()), ()) := zsO f hf _ (by omega)
    simp only [zz_eq, lt_cast hi, le_cast, decide_true, cond_true, Int.toNat_natCast, w64_up (show i < 4294967296 by omega)]
    rw [he]
    rfl
  · intro g
    show zb6 f g _ = _
    unfold zb6
    simp only [zz_eq, zj, decide_false, cond_false]
theorem zsR (f : Nat) (hf : 1048576 < f) (n : NetY) (hl : szK KNET n ≤ 1048576) : zao f ((n.1, n.2.1, n.2.2.1, n.2.2.2.1, ()), (n.1, n.2.1, n.2.2.1, n.2.2.2.1, ()), ()) = some ((true, ()), ()) := by
  obtain ⟨ns, ls, ws, ps, ⟨⟩⟩ := n
  have e : szK KNET (ns, ls, ws, ps, ()) = szK (.list KN) ns + (szK (.list .bool) ls + (szK (.list KW) ws + (szK (.list (.list (.list I6))) ps + 0))) := by simp only [szK]
  rw [e] at hl
  have l2 := szK_len (e := .bool) (xs := ls)
  show zfW f ns ls ws ps ns ls ws ps = _
  unfold zfW
  rw [zsP f hf ns (by omega), zsH f ls (by omega) hf, zsQ f hf ws (by omega), zsK f hf ps (by omega)]
  rfl
end Go.Proofs.Ytmkekjmckdkcnaa.Den
namespace Go.Proofs.Ytmkekjmckdkcnaa.Den
open Go
abbrev BIG : Nat := 1000000000000000
theorem set_mid {α : Type} {x y : α} {r : List α} : ∀ {p : List α}, (p ++ x :: r).set p.length y = p ++ y :: r
  | [] => rfl
  | z :: p => by simp [set_mid (p := p)]
theorem zaQ {α : Type} {x d : α} {r : List α} : ∀ {p : List α}, (p ++ x :: r).getD p.length d = x
  | [] => rfl
  | z :: p => by simp
theorem len_mid {α : Type} {x : α} {p r : List α} : (p ++ x :: r).length = p.length + r.length + 1 := by simp; omega
theorem markLoop {e : Kd} (he0 : e.noList = true) {st : (Int × Int × List e.T → Option (List e.T × ((Int × Unit) × Unit))) → Int × Int × List e.T → Option (List e.T × ((Int × Unit) × Unit))}
    (hs : ∀ (p r : List e.T) (x : e.T) (k : Int) g, 0 ≤ k → k + flK e ≤ BIG → p.length + r.length + 1 < 4294967296 → st g ((p.length : Int), k, p ++ x :: r) = g (((p.length + 1 : Nat) : Int), (markK e x k).2, p ++ (markK e x k).1 :: r))
    (he : ∀ (l : List e.T) (k : Int) g, st g ((l.length : Int), k, l) = some (l, (k, ()), ())) :
    ∀ (r p : List e.T) (k : Int) (fuel : Nat), 0 ≤ k → k + ((r.length * flK e : Nat) : Int) ≤ BIG → p.length + r.length < 4294967296 → r.length < fuel → iter st fuel ((p.length : Int), k, p ++ r) = some (p ++ (markK (.list e) r k).1, ((markK (.list e) r k).2, ()), ())
  | [], p, k, fuel + 1, _, _, _, _ => by
    rw [iter, List.append_nil, he, zmE, List.append_nil]
  | x :: r, p, k, fuel + 1, h0, h1, hl, hf => by
    simp only [List.length_cons] at h1 hl hf
    have e1 : (r.length + 1) * flK e = r.length * flK e + flK e := by rw [Nat.add_mul, Nat.one_mul]
    rw [iter, hs p r x k _ h0 (by omega) (by omega)]
    have hk : k ≤ (markK e x k).2 ∧ (markK e x k).2 ≤ k + flK e := by
      have := zk (K := e) (x := x) (k := k) (wdK e) (Nat.le_refl _)
      rw [zhz he0] at this
      simpa using this
    have ih := markLoop he0 hs he r (p ++ [(markK e x k).1]) (markK e x k).2 fuel (by omega) (by omega) (by simp; omega) (by omega)
    rw [List.length_append, List.length_singleton, List.append_assoc, List.singleton_append] at ih
    rw [ih, zhB]
    simp
theorem zhD (f : Nat) (hf : 1048576 < f) (l : List (Kd.T I6)) (k : Int) (hl : l.length ≤ 1048576) (h0 : 0 ≤ k) (h1 : k + ((16 * l.length : Nat) : Int) ≤ BIG) : z9 f (l, k) = some (markK (.list I6) l k) := by
  have h := markLoop (e := I6) rfl (st := zeU f)
    (fun p r x k g h0 h1 hl => by
      have h1 : k + (1 : Nat) ≤ (1000000000000000 : Nat) := h1
      show zaZ f g _ = _
      unfold zaZ
      have g1 : (p.length : Int) < ((p.length + r.length + 1 : Nat) : Int) := by omega
      have g2 : p.length < p.length + r.length + 1 := by omega
      have e3 : w64 (k + 1) = k + 1 := by rw [w64_id] <;> omega
      have e4 : w64 (k + 1 + 1) = k + 1 + 1 := by rw [w64_id] <;> omega
      simp only [zz_eq, len_mid, set_mid, zaQ, g1, g2, le_cast, decide_true, cond_true, Int.toNat_natCast, w64_up (show p.length < 4294967296 by omega), e3, e4]
      rfl)
    (fun l k g => by
      show zaZ f g _ = _
      unfold zaZ
      simp only [zz_eq, zj, decide_false, cond_false])
    l [] k f h0 (by have e : flK I6 = 1 := rfl; rw [e]; omega) (by simp; omega) (by omega)
  unfold z9
  have h2 : zeV f (l, (), ((k, ()), ())) = some ([] ++ (markK (.list I6) l k).1, ((markK (.list I6) l k).2, ()), ()) := h
  rw [h2]; rfl
theorem zsS (f : Nat) (hf : 1048576 < f) (l : List (Kd.T .bool)) (k : Int) (hl : l.length ≤ 1048576) (h0 : 0 ≤ k) (h1 : k + ((16 * l.length : Nat) : Int) ≤ BIG) : zbd f (l, k) = some (markK (.list .bool) l k) := by
  have h := markLoop (e := .bool) rfl (st := ze6 f)
    (fun p r x k g h0 h1 hl => by
      have h1 : k + (1 : Nat) ≤ (1000000000000000 : Nat) := h1
      show zbc f g _ = _
      unfold zbc
      have g1 : (p.length : Int) < ((p.length + r.length + 1 : Nat) : Int) := by omega
      have g2 : p.length < p.length + r.length + 1 := by omega
      have e3 : w64 (k + 1) = k + 1 := by rw [w64_id] <;> omega
      have e4 : w64 (k + 1 + 1) = k + 1 + 1 := by rw [w64_id] <;> omega
      simp only [zz_eq, len_mid, set_mid, zaQ, g1, g2, le_cast, decide_true, cond_true, Int.toNat_natCast, w64_up (show p.length < 4294967296 by omega), e3, e4]
      rfl)
    (fun l k g => by
      show zbc f g _ = _
      unfold zbc
      simp only [zz_eq, zj, decide_false, cond_false])
    l [] k f h0 (by have e : flK .bool = 1 := rfl; rw [e]; omega) (by simp; omega) (by omega)
  unfold zbd
  have h2 : ze7 f (l, (), ((k, ()), ())) = some ([] ++ (markK (.list .bool) l k).1, ((markK (.list .bool) l k).2, ()), ()) := h
  rw [h2]; rfl
theorem zsT (f : Nat) (hf : 1048576 < f) (l : List (Kd.T KP)) (k : Int) (hl : l.length ≤ 1048576) (h0 : 0 ≤ k) (h1 : k + ((16 * l.length : Nat) : Int) ≤ BIG) : zdg f (l, k) = some (markK (.list KP) l k) := by
  have h := markLoop (e := KP) rfl (st := zeY f)
    (fun p r x k g h0 h1 hl => by
      have h1 : k + (2 : Nat) ≤ (1000000000000000 : Nat) := h1
      show za4 f g _ = _
      unfold za4
      have g1 : (p.length : Int) < ((p.length + r.length + 1 : Nat) : Int) := by omega
      have g2 : p.length < p.length + r.length + 1 := by omega
      have e3 : w64 (k + 1) = k + 1 := by rw [w64_id] <;> omega
      have e4 : w64 (k + 1 + 1) = k + 1 + 1 := by rw [w64_id] <;> omega
      simp only [zz_eq, len_mid, set_mid, zaQ, g1, g2, le_cast, decide_true, cond_true, Int.toNat_natCast, w64_up (show p.length < 4294967296 by omega), e3, e4]
      rfl)
    (fun l k g => by
      show za4 f g _ = _
      unfold za4
      simp only [zz_eq, zj, decide_false, cond_false])
    l [] k f h0 (by have e : flK KP = 2 := rfl; rw [e]; omega) (by simp; omega) (by omega)
  unfold zdg
  have h2 : zeZ f (l, (), ((k, ()), ())) = some ([] ++ (markK (.list KP) l k).1, ((markK (.list KP) l k).2, ()), ()) := h
  rw [h2]; rfl
theorem zsU (f : Nat) (hf : 1048576 < f) (l : List (Kd.T KP)) (k : Int) (hl : l.length ≤ 1048576) (h0 : 0 ≤ k) (h1 : k + ((16 * l.length : Nat) : Int) ≤ BIG) : zdh f (l, k) = some (markK (.list KP) l k) := by
  have h := markLoop (e := KP) rfl (st := ze2 f)
    (fun p r x k g h0 h1 hl => by
      have h1 : k + (2 : Nat) ≤ (1000000000000000 : Nat) := h1
      show za8 f g _ = _
      unfold za8
      have g1 : (p.length : Int) < ((p.length + r.length + 1 : Nat) : Int) := by omega
      have g2 : p.length < p.length + r.length + 1 := by omega
      have e3 : w64 (k + 1) = k + 1 := by rw [w64_id] <;> omega
      have e4 : w64 (k + 1 + 1) = k + 1 + 1 := by rw [w64_id] <;> omega
      simp only [zz_eq, len_mid, set_mid, zaQ, g1, g2, le_cast, decide_true, cond_true, Int.toNat_natCast, w64_up (show p.length < 4294967296 by omega), e3, e4]
      rfl)
    (fun l k g => by
      show za8 f g _ = _
      unfold za8
      simp only [zz_eq, zj, decide_false, cond_false])
    l [] k f h0 (by have e : flK KP = 2 := rfl; rw [e]; omega) (by simp; omega) (by omega)
  unfold zdh
  have h2 : ze3 f (l, (), ((k, ()), ())) = some ([] ++ (markK (.list KP) l k).1, ((markK (.list KP) l k).2, ()), ()) := h
  rw [h2]; rfl
theorem zmH (f : Nat) (hf : 1048576 < f) (l : List (Kd.T (.list I6))) (k : Int) (hl : szK (.list (.list I6)) l ≤ 1048576) (h0 : 0 ≤ k) (h1 : k + ((16 * szK (.list (.list I6)) l : Nat) : Int) ≤ BIG) : zbf f (l, k) = some (markK (.list (.list I6)) l k) := by
  have h : l.length ≤ 1048576 := Nat.le_trans szK_len hl
  unfold zbf
  rw [if_pos h]
  refine zaP (w := 16) (B := BIG) (by decide) (fun x hx k h2 h3 => ?_) h0 h1
  have hx' : szK (.list I6) x + l.length ≤ szK (.list (.list I6)) l := szK_mem hx
  have hfl : flK (.list I6) = 0 := rfl
  rw [hfl] at h3
  unfold zbe
  have hl2 := szK_len (e := I6) (xs := x)
  rw [zhD f hf x k (by omega) h2 (by omega)]; rfl
theorem zsV (f : Nat) (hf : 1048576 < f) (l : List (Kd.T (.list (.list I6)))) (k : Int) (hl : szK (.list (.list (.list I6))) l ≤ 1048576) (h0 : 0 ≤ k) (h1 : k + ((16 * szK (.list (.list (.list I6))) l : Nat) : Int) ≤ BIG) : zbh f (l, k) = some (markK (.list (.list (.list I6))) l k) := by
  have h : l.length ≤ 1048576 := Nat.le_trans szK_len hl
  unfold zbh
  rw [if_pos h]
  refine zaP (w := 16) (B := BIG) (by decide) (fun x hx k h2 h3 => ?_) h0 h1
  have hx' : szK (.list (.list I6)) x + l.length ≤ szK (.list (.list (.list I6))) l := szK_mem hx
  have hfl : flK (.list (.list I6)) = 0 := rfl
  rw [hfl] at h3
  unfold zbg
  rw [zmH f hf x k (by omega) h2 (by omega)]; rfl
theorem zmI (f : Nat) (hf : 1048576 < f) (l : List (Kd.T KE)) (k : Int) (hl : szK (.list KE) l ≤ 1048576) (h0 : 0 ≤ k) (h1 : k + ((16 * szK (.list KE) l : Nat) : Int) ≤ BIG) : zbj f (l, k) = some (markK (.list KE) l k) := by
  have h : l.length ≤ 1048576 := Nat.le_trans szK_len hl
  unfold zbj
  rw [if_pos h]
  refine zaP (w := 16) (B := BIG) (by decide) (fun x hx k h2 h3 => ?_) h0 h1
  have hx' : szK KE x + l.length ≤ szK (.list KE) l := szK_mem hx
  have hfl : flK KE = 6 := rfl
  rw [hfl] at h3
  unfold zbi
  obtain ⟨nd, bo, nu, ⟨⟨rs, ⟨⟩⟩, ⟨ms, ⟨⟩⟩, ⟨ps, lost, tall, ⟨⟩⟩, ⟨ks, rall, ⟨⟩⟩, ⟨⟩⟩, ⟨⟩⟩ := x
  have e : szK KE (nd, bo, nu, ((rs, ()), (ms, ()), (ps, lost, tall, ()), (ks, rall, ()), ()), ()) = szK (.list (.list I6)) rs + (szK (.list I6) ms + (szK (.list KP) ps + (szK (.list KP) ks + 0))) := by
    simp only [szK]; omega
  rw [e] at hx' h3
  have hB : BIG = 1000000000000000 := rfl
  have l2 := szK_len (e := I6) (xs := ms); have l3 := szK_len (e := KP) (xs := ps); have l4 := szK_len (e := KP) (xs := ks)
  have c1 : w64 (k + 1) = k + 1 := by rw [w64_id] <;> omega
  have c2 : w64 (k + 1 + 1) = k + 1 + 1 := by rw [w64_id] <;> omega
  have c3 : w64 (k + 1 + 1 + 1) = k + 1 + 1 + 1 := by rw [w64_id] <;> omega
  have f1 := zk (K := .list (.list I6)) (x := rs) (k := k + 1 + 1 + 1) 16 (by decide)
  have f2 := zk (K := .list I6) (x := ms) (k := (markK (.list (.list I6)) rs (k + 1 + 1 + 1)).2) 16 (by decide)
  have z1 : flK (.list (.list I6)) = 0 := rfl
  have z2 : flK (.list I6) = 0 := rfl
  have z3 : flK (.list KP) = 0 := rfl
  rw [z1] at f1; rw [z2] at f2
  simp only [c1, c2, c3]
  rw [zmH f hf rs _ (by omega) (by omega) (by omega), Option.bind_some, zhD f hf ms _ (by omega) (by omega) (by omega), Option.bind_some]
  generalize hk2 : markK (.list I6) ms (markK (.list (.list I6)) rs (k + 1 + 1 + 1)).2 = M2 at f2 ⊢
  have f3 := zk (K := .list KP) (x := ps) (k := M2.2) 16 (by decide)
  rw [z3] at f3
  rw [zsT f hf ps _ (by omega) (by omega) (by omega), Option.bind_some]
  generalize hk3 : markK (.list KP) ps M2.2 = M3 at f3 ⊢
  have c4 : w64 (M3.2 + 1) = M3.2 + 1 := by rw [w64_id] <;> omega
  have c5 : w64 (M3.2 + 1 + 1) = M3.2 + 1 + 1 := by rw [w64_id] <;> omega
  simp only [c4, c5]
  have f4 := zk (K := .list KP) (x := ks) (k := M3.2 + 1 + 1) 16 (by decide)
  rw [z3] at f4
  rw [zsU f hf ks _ (by omega) (by omega) (by omega), Option.bind_some]
  generalize hk4 : markK (.list KP) ks (M3.2 + 1 + 1) = M4 at f4 ⊢
  have c6 : w64 (M4.2 + 1) = M4.2 + 1 := by rw [w64_id] <;> omega
  simp only [c6]
  subst hk4; subst hk3; subst hk2
  rfl
theorem zsW (f : Nat) (hf : 1048576 < f) (l : List (Kd.T KN)) (k : Int) (hl : szK (.list KN) l ≤ 1048576) (h0 : 0 ≤ k) (h1 : k + ((16 * szK (.list KN) l : Nat) : Int) ≤ BIG) : zbl f (l, k) = some (markK (.list KN) l k) := by
  have h : l.length ≤ 1048576 := Nat.le_trans szK_len hl
  unfold zbl
  rw [if_pos h]
  refine zaP (w := 16) (B := BIG) (by decide) (fun x hx k h2 h3 => ?_) h0 h1
  have hx' : szK KN x + l.length ≤ szK (.list KN) l := szK_mem hx
  have hfl : flK KN = 4 := rfl
  rw [hfl] at h3
  unfold zbk
  obtain ⟨bo, kn, be, le, up, ⟨⟩⟩ := x
  have e : szK KN (bo, kn, be, le, up, ()) = szK (.list KE) kn := by simp only [szK]; omega
  rw [e] at hx' h3
  have hB : BIG = 1000000000000000 := rfl
  have c1 : w64 (k + 1) = k + 1 := by rw [w64_id] <;> omega
  have f1 := zk (K := .list KE) (x := kn) (k := k + 1) 16 (by decide)
  have z1 : flK (.list KE) = 0 := rfl
  rw [z1] at f1
  simp only [c1]
  rw [zmI f hf kn _ (by omega) (by omega) (by omega), Option.bind_some]
  generalize hk2 : markK (.list KE) kn (k + 1) = M at f1 ⊢
  have d1 : w64 (M.2 + 1) = M.2 + 1 := by rw [w64_id] <;> omega
  have d2 : w64 (M.2 + 1 + 1) = M.2 + 1 + 1 := by rw [w64_id] <;> omega
  have d3 : w64 (M.2 + 1 + 1 + 1) = M.2 + 1 + 1 + 1 := by rw [w64_id] <;> omega
  simp only [d1, d2, d3]
  subst hk2
  rfl
theorem zsX (f : Nat) (hf : 1048576 < f) (l : List (Kd.T KW)) (k : Int) (hl : szK (.list KW) l ≤ 1048576) (h0 : 0 ≤ k) (h1 : k + ((16 * szK (.list KW) l : Nat) : Int) ≤ BIG) : zbn f (l, k) = some (markK (.list KW) l k) := by
  have h : l.length ≤ 1048576 := Nat.le_trans szK_len hl
  unfold zbn
  rw [if_pos h]
  refine zaP (w := 16) (B := BIG) (by decide) (fun x hx k h2 h3 => ?_) h0 h1
  have hx' : szK KW x + l.length ≤ szK (.list KW) l := szK_mem hx
  have hfl : flK KW = 5 := rfl
  rw [hfl] at h3
  unfold zbm
  obtain ⟨ki, fr, to, be, le, kn, ⟨⟩⟩ := x
  have e : szK KW (ki, fr, to, be, le, kn, ()) = szK (.list KE) kn := by simp only [szK]; omega
  rw [e] at hx' h3
  have hB : BIG = 1000000000000000 := rfl
  have c1 : w64 (k + 1) = k + 1 := by rw [w64_id] <;> omega
  have c2 : w64 (k + 1 + 1) = k + 1 + 1 := by rw [w64_id] <;> omega
  have c3 : w64 (k + 1 + 1 + 1) = k + 1 + 1 + 1 := by rw [w64_id] <;> omega
  have c4 : w64 (k + 1 + 1 + 1 + 1) = k + 1 + 1 + 1 + 1 := by rw [w64_id] <;> omega
  have c5 : w64 (k + 1 + 1 + 1 + 1 + 1) = k + 1 + 1 + 1 + 1 + 1 := by rw [w64_id] <;> omega
  simp only [c1, c2, c3, c4, c5]
  rw [zmI f hf kn _ (by omega) (by omega) (by omega), Option.bind_some]
  rfl
theorem zsY (f : Nat) (hf : 1048576 < f) (n : NetY) (k : Int) (hl : szK KNET n ≤ 1048576) (h0 : 0 ≤ k) (h1 : k + ((16 * szK KNET n : Nat) : Int) ≤ BIG) : zad f (n, k) = some (markK KNET n k) := by
  obtain ⟨ns, ls, ws, ps, ⟨⟩⟩ := n
  have e : szK KNET (ns, ls, ws, ps, ()) = szK (.list KN) ns + (szK (.list .bool) ls + (szK (.list KW) ws + (szK (.list (.list (.list I6))) ps + 0))) := by simp only [szK]
  rw [e] at hl h1
  have l2 := szK_len (e := .bool) (xs := ls)
  have f1 := zk (K := .list KN) (x := ns) (k := k) 16 (by decide)
  have f2 := zk (K := .list .bool) (x := ls) (k := (markK (.list KN) ns k).2) 16 (by decide)
  have f3 := zk (K := .list KW) (x := ws) (k := (markK (.list .bool) ls (markK (.list KN) ns k).2).2) 16 (by decide)
  have z1 : flK (.list KN) = 0 := rfl
  have z2 : flK (.list .bool) = 0 := rfl
  have z3 : flK (.list KW) = 0 := rfl
  rw [z1] at f1; rw [z2] at f2; rw [z3] at f3
  unfold zad
  show Option.bind (zbl f (ns, k)) _ = _
  rw [zsW f hf ns k (by omega) h0 (by omega), Option.bind_some]
  show Option.bind (zbd f (ls, _)) _ = _
  rw [zsS f hf ls _ (by omega) (by omega) (by omega), Option.bind_some]
  show Option.bind (zbn f (ws, _)) _ = _
  rw [zsX f hf ws _ (by omega) (by omega) (by omega), Option.bind_some]
  show Option.bind (zbh f (ps, _)) _ = _
  rw [zsV f hf ps _ (by omega) (by omega) (by omega), Option.bind_some]
  rfl
end Go.Proofs.Ytmkekjmckdkcnaa.Den
namespace Go.Proofs.Ytmkekjmckdkcnaa.Den
open Go
abbrev LK3 := List (Int × Int × Int)
theorem zmJ (a b : Int) : ∀ (es : LK3) (i : Nat), (mfind a b es i).isSome = es.any fun e => a == e.1 && b == e.2.1
  | [], _ => rfl
  | e :: r, i => by
    unfold mfind
    rw [List.any_cons]
    cases h : (a == e.1) && (b == e.2.1) with
    | true => rfl
    | false => rw [cond_false, zmJ a b r (i + 1), Bool.false_or]
theorem zeR (es : LK3) (a b : Int) : mhas es a b = es.any fun e => a == e.1 && b == e.2.1 := zmJ a b es 0
theorem zmK (es : LK3) (x y : Int) : (es.any fun e => x == e.1 && y == e.2.1) = (es.map fun e => (e.1, e.2.1)).any fun k => x == k.1 && y == k.2 := by
  induction es with
  | nil => rfl
  | cons e r ih => rw [List.map_cons, List.any_cons, List.any_cons, ih]
theorem zsZ (es : LK3) (a b n x y : Int) : mhas (mset es a b n) x y = (mhas es x y || (x == a && y == b)) := by
  unfold mset
  split
  · rename_i p h
    obtain ⟨-, h2⟩ := zgY h
    rw [Nat.sub_zero] at h2
    have hk : ((es.set p.1 (a, b, n)).map fun e => (e.1, e.2.1)) = es.map fun e => (e.1, e.2.1) := by
      rw [List.map_set]
      refine List.ext_getElem? fun j => ?_
      rw [List.getElem?_set]
      split
      · rename_i hj
        subst hj
        rw [List.getElem?_map, h2]
        have := (List.getElem?_eq_some_iff.1 h2).1
        simp [this]
      · rfl
    rw [zeR, zeR, zmK, hk, ← zmK]
    cases hxy : (x == a && y == b) with
    | false => rw [Bool.or_false]
    | true =>
      rw [Bool.or_true, List.any_eq_true]
      simp only [Bool.and_eq_true, beq_iff_eq] at hxy
      exact ⟨_, List.mem_of_getElem? h2, by simp [hxy.1, hxy.2]⟩
  · rw [zeR, zeR, List.any_append]
    simp
def linksM (es : LK3) : List Bool := [mhas es 0 0, mhas es 0 1, mhas es 0 2, mhas es 0 3, mhas es 0 4, mhas es 1 0, mhas es 1 1, mhas es 1 2, mhas es 1 3, mhas es 1 4, mhas es 2 0, mhas es 2 1, mhas es 2 2, mhas es 2 3, mhas es 2 4, mhas es 3 0, mhas es 3 1, mhas es 3 2, mhas es 3 3, mhas es 3 4, mhas es 4 0, mhas es 4 1, mhas es 4 2, mhas es 4 3, mhas es 4 4]
theorem zmL (es : LK3) (a b : Int) (ha : 0 ≤ a ∧ a ≤ 4) (hb : 0 ≤ b ∧ b ≤ 4) : (linksM es).set (a * 5 + b).toNat true = linksM (mset es a b 1) := by
  rcases show a = 0 ∨ a = 1 ∨ a = 2 ∨ a = 3 ∨ a = 4 by omega with rfl | rfl | rfl | rfl | rfl <;> rcases show b = 0 ∨ b = 1 ∨ b = 2 ∨ b = 3 ∨ b = 4 by omega with rfl | rfl | rfl | rfl | rfl <;>
    simp [linksM, zsZ]
theorem zs0 (es : LK3) : (linksM es).length = 25 := rfl
def okN (a : Int) : Bool := decide (0 ≤ a) && decide (a ≤ 4)
theorem okN_iff {a : Int} (h : okN a = true) : 0 ≤ a ∧ a ≤ 4 := by simpa [okN] using h
theorem zs1 (f : Nat) (a : Int) : zcm f ((a, ()), ()) = some ((okN a, ()), ()) := by
  show zgd f a = _
  unfold zgd okN
  by_cases h : 0 ≤ a
  · have e : decide (a < 5) = decide (a ≤ 4) := by rw [decide_eq_decide]; omega
    simp [h, e]
  · simp [h]
theorem l6In_eq (f : Nat) (a : Int) : zch f ((a, ()), ((0 : Int), ()), ((4 : Int), ()), ()) = some ((okN a, ()), ()) := by
  show zf2 f a 0 4 = _
  unfold zf2 okN
  by_cases h : 0 ≤ a
  · simp [h]
  · simp [h]
theorem link_eq (f : Nat) (a b : Int) (ha : 0 ≤ a ∧ a ≤ 4) (hb : 0 ≤ b ∧ b ≤ 4) : zcc f ((a, ()), (b, ()), ()) = some ((a * 5 + b, ()), ()) := by
  show zfZ f a b = _
  unfold zfZ
  rw [w64_id (x := a * 5) (by omega) (by omega), w64_id (by omega) (by omega)]
def goN : List Int → LK3 → Option LK3
  | a :: b :: r, es => cond (okN a && okN b && !(a == b)) (goN r (mset (mset es a b 1) b a 1)) none
  | _, es => some es
def nod0 (a l : Int) : NodY := (1, [ent0 a], 0, l, -1, ())
def net0 (es : LK3) : NetY := ([nod0 0 0, nod0 1 5, nod0 2 5, nod0 3 5, nod0 4 5], linksM es, [], past0, ())
def netR : Option LK3 → NetY × Bool
  | none => (([], [], [], [], ()), false)
  | some es => (net0 es, true)
theorem cond_f {α : Type} {c : Bool} {x y z : α} (h : c = false) (e : y = z) : cond c x y = z := by rw [h]; exact e
theorem cond_t {α : Type} {c : Bool} {x y z : α} (h : c = true) (e : x = z) : cond c x y = z := by rw [h]; exact e
theorem zs2 (f : Nat) (g) (l : List Int) (es : LK3) : zlv f g ((l.length : Int), l, es) = some (netR (some es)) :=
  cond_f (decide_eq_false zj) (by kernel_rfl)
theorem zs3 (f : Nat) (g) (l : List Int) (es : LK3) : zjG f g ((l.length : Int), l, linksM es) = some ((net0 es), (true, ()), ()) :=
  cond_f (decide_eq_false zj) (by kernel_rfl)
theorem zmM {α : Type} {x y d : α} {r p : List α} : (p ++ x :: y :: r).getD (p.length + 1) d = y := by
  rw [List.getD_eq_getElem?_getD, List.getElem?_append_right (by omega)]
  simp
theorem w64_up' {n : Nat} (h : n < 4294967296) : w64 ((n : Int) + 2) = ((n + 2 : Nat) : Int) := by rw [w64_id] <;> omega
theorem zlB (f : Nat) : ∀ (n : Nat) (r p : List Int) (es : LK3) (g : Nat), r.length = 2 * n → p.length + r.length ≤ 1048576 → n < g → iter (zem f) g ((p.length : Int), p ++ r, es) = some (netR (goN r es))
  | 0, r, p, es, g + 1, hr, hl, hg => by
    obtain rfl : r = [] := List.length_eq_zero_iff.1 (by omega)
    rw [iter, List.append_nil]
    exact zs2 f _ p es
  | n + 1, a :: b :: r, p, es, g + 1, hr, hl, hg => by
    simp only [List.length_cons] at hr hl
    rw [iter]
    have hlen : (p ++ a :: b :: r).length = p.length + r.length + 2 := by simp; omega
    have h1 : (p.length : Int) < ((p.length + r.length + 2 : Nat) : Int) := by omega
    have h2 : ((p.length + 1 : Nat) : Int) < ((p.length + r.length + 2 : Nat) : Int) := by omega
    have ih := zlB f n r (p ++ [a, b]) (mset (mset es a b 1) b a 1) g (by omega) (by simp; omega) (by omega)
    rw [List.length_append, show ([a, b] : List Int).length = 2 from rfl, List.append_assoc, show [a, b] ++ r = a :: b :: r from rfl] at ih
    have e0 : decide (((p.length : Int)) < zz (p ++ a :: b :: r).length) = true := by rw [hlen, zz_eq]; exact decide_eq_true h1
    refine cond_t e0 ?_
    simp only [zz_eq, hlen, h1, h2, le_cast, decide_true, cond_true, Int.toNat_natCast, w64_up (show p.length < 4294967296 by omega), w64_up' (show p.length < 4294967296 by omega), zaQ, zmM, zs1, Option.bind_some]
    unfold goN
    cases ha : okN a
    · rfl
    · cases hb : okN b
      · rfl
      · cases hab : a == b
        · exact ih
        · rfl
theorem zlC (f : Nat) : ∀ (n : Nat) (r p : List Int) (es : LK3) (g : Nat), r.length = 2 * n → p.length + r.length ≤ 1048576 → n < g → iter (zd5 f) g ((p.length : Int), p ++ r, linksM es) = some ((netR (goN r es)).1, ((netR (goN r es)).2, ()), ())
  | 0, r, p, es, g + 1, hr, hl, hg => by
    obtain rfl : r = [] := List.length_eq_zero_iff.1 (by omega)
    rw [iter, List.append_nil]
    exact zs3 f _ p es
  | n + 1, a :: b :: r, p, es, g + 1, hr, hl, hg => by
    simp only [List.length_cons] at hr hl
    rw [iter]
    have hlen : (p ++ a :: b :: r).length = p.length + r.length + 2 := by simp; omega
    have h1 : (p.length : Int) < ((p.length + r.length + 2 : Nat) : Int) := by omega
    have h2 : ((p.length + 1 : Nat) : Int) < ((p.length + r.length + 2 : Nat) : Int) := by omega
    have ih := zlC f n r (p ++ [a, b]) (mset (mset es a b 1) b a 1) g (by omega) (by simp; omega) (by omega)
    rw [List.length_append, show ([a, b] : List Int).length = 2 from rfl, List.append_assoc, show [a, b] ++ r = a :: b :: r from rfl] at ih
    have e0 : decide (((p.length : Int)) < zz (p ++ a :: b :: r).length) = true := by rw [hlen, zz_eq]; exact decide_eq_true h1
    refine cond_t e0 ?_
    simp only [zz_eq, hlen, h1, h2, le_cast, decide_true, cond_true, Int.toNat_natCast, w64_up (show p.length < 4294967296 by omega), w64_up' (show p.length < 4294967296 by omega), zaQ, zmM, l6In_eq, Option.bind_some]
    unfold goN
    cases ha : okN a
    · rfl
    · cases hb : okN b
      · rfl
      · cases hab : a == b
        · have a1 := okN_iff ha
          have b1 := okN_iff hb
          have k1 : 0 ≤ a * 5 + b := by omega
          have k2 : a * 5 + b < ((25 : Nat) : Int) := by omega
          have k3 : (a * 5 + b).toNat < 25 := by omega
          have k4 : 0 ≤ b * 5 + a := by omega
          have k5 : b * 5 + a < ((25 : Nat) : Int) := by omega
          have k6 : (b * 5 + a).toNat < 25 := by omega
          simp only [Bool.not_true, Bool.not_false, Bool.and_self, cond_false, cond_true, link_eq f a b a1 b1, link_eq f b a b1 a1, Option.bind_some, List.length_set, zs0, k1, k2, k3, k4, k5, k6, decide_true, zmL _ a b a1 b1, zmL _ b a b1 a1]
          exact ih
        · rfl
def newR (l : List Int) : NetY × Bool := if l.length % 2 = 0 ∧ l.length ≤ 40 then netR (goN l []) else (([], [], [], [], ()), false)
theorem tmod2 (n : Nat) : (Int.tmod ((n : Nat) : Int) 2 != 0) = decide (n % 2 = 1) := by
  rw [show Int.tmod ((n : Nat) : Int) 2 = ((n % 2 : Nat) : Int) from rfl]
  rcases Nat.mod_two_eq_zero_or_one n with h | h <;> simp [h]
theorem zs4 (f : Nat) (hf : 40 < f) (l : List Int) : zcW f (l, ()) = some (newR l) := by
  show zen f (iter (zem f) (f + 6)) l = _
  unfold zen newR
  by_cases h40 : l.length ≤ 40
  · rw [zz_eq, decide_eq_false (by omega), cond_false, tmod2]
    by_cases h2 : l.length % 2 = 0
    · rw [decide_eq_false (by omega), cond_false, if_pos ⟨h2, h40⟩]
      exact zlB f (l.length / 2) l [] [] (f + 6) (by omega) (by simp; omega) (by omega)
    · rw [decide_eq_true (by omega), cond_true, if_neg (by omega)]
  · rw [zz_eq, decide_eq_true (by omega), cond_true, if_neg (by omega)]
theorem zs5 (f : Nat) (hf : 40 < f) (l : List Int) : zd7 f ((l, ()), ()) = some ((newR l).1, ((newR l).2, ()), ()) := by
  show zd6 f (iter (zd5 f) (f + 6)) l = _
  unfold zd6 newR
  rw [zz_eq, tmod2]
  by_cases h2 : l.length % 2 = 0
  · rw [decide_eq_false (by omega), cond_false]
    by_cases h40 : l.length ≤ 40
    · rw [decide_eq_false (by omega), cond_false, if_pos ⟨h2, h40⟩]
      exact zlC f (l.length / 2) l [] [] (f + 6) (by omega) (by simp; omega) (by omega)
    · rw [decide_eq_true (by omega), cond_true, if_neg (by omega)]
  · rw [decide_eq_true (by omega), cond_true, if_neg (by omega)]
theorem zmN (l : List Int) : newR l = (([], [], [], [], ()), false) ∨ ∃ es, newR l = (net0 es, true) := by
  unfold newR
  split
  · cases goN l [] with
    | none => exact .inl rfl
    | some es => exact .inr ⟨es, rfl⟩
  · exact .inl rfl
theorem zs6 (f : Nat) (es : LK3) : zW (f + 64) (((markK KNET (net0 es) 1).1.1, (markK KNET (net0 es) 1).1.2.1, (markK KNET (net0 es) 1).1.2.2.1, (markK KNET (net0 es) 1).1.2.2.2.1, ()), ((1 : Int), ()), ()) = some (((markK KNET (net0 es) 1).2, ()), ()) := by
  kernel_rfl
theorem zs7 (f : Nat) : zW (f + 64) (([], [], [], [], ()), ((1 : Int), ()), ()) = some ((1, ()), ()) := by
  kernel_rfl
theorem zs8 (es : LK3) : szK KNET (net0 es) ≤ 1048576 := Nat.le_of_ble_eq_true (by kernel_rfl)
theorem lawExactNetNew (f : Nat) (hf : 2000000 < f) (l : List Int) : zep f ((l, ()), ()) = some ((true, ()), ()) := by
  show zgJ f l = _
  unfold zgJ
  by_cases hl : l.length ≤ 1048576
  · rw [zz_eq, decide_eq_false (by omega), cond_false]
    have e1 := zsG f l hl (by omega)
    have e2 := zs5 f (by omega) l
    have e3 := zs4 f (by omega) l
    have e4 := zhC f l hl (by omega)
    have hB : BIG = 1000000000000000 := rfl
    have hsz : szK KNET (newR l).1 ≤ 1048576 := by
      rcases zmN l with h | ⟨es, h⟩
      · rw [h]; decide
      · rw [h]; exact zs8 es
    have e5 := zsR f (by omega) (newR l).1 hsz
    have e6 := zhD f (by omega) l 1 hl (by decide) (by omega)
    have h6 := zk (K := .list I6) (x := l) (k := 1) 16 (by decide)
    have n6 : ¬ (markK (.list I6) l 1).2 < 0 := by omega
    have e7 : zad f (((newR l).1.1, (newR l).1.2.1, (newR l).1.2.2.1, (newR l).1.2.2.2.1, ()), 1) = some (markK KNET (newR l).1 1) := zsY f (by omega) (newR l).1 1 hsz (by decide) (by omega)
    have h7 := zk (K := KNET) (x := (newR l).1) (k := 1) 16 (by decide)
    have n7 : ¬ (markK KNET (newR l).1 1).2 < 0 := by omega
    have e8 : zW f (((markK KNET (newR l).1 1).1.1, (markK KNET (newR l).1 1).1.2.1, (markK KNET (newR l).1 1).1.2.2.1, (markK KNET (newR l).1 1).1.2.2.2.1, ()), ((1 : Int), ()), ()) = some (((markK KNET (newR l).1 1).2, ()), ()) := by
      obtain ⟨g, rfl⟩ : ∃ g, f = g + 64 := ⟨f - 64, by omega⟩
      rcases zmN l with h | ⟨es, h⟩
      · rw [h]; exact zs7 g
      · rw [h]; exact zs6 g es
    simp only [e1, Option.bind_some, e2, e3, e4, e5, e6, n6, e7, n7, e8, beq_self_eq_true, decide_false, cond_false, Bool.not_true, bne_self_eq_false]
  · rw [zz_eq, decide_eq_true (by omega), cond_true]
theorem pureExactNetNew (a : CsT [(.list I6, false)]) (ha : wfCs [(.list I6, false)] a) :
    ∃ fuel, zep fuel (a, ()) = some ((true, ()), ()) := by
  obtain ⟨l, ⟨⟩⟩ := a
  exact ⟨2000001, lawExactNetNew 2000001 (by omega) l⟩
end Go.Proofs.Ytmkekjmckdkcnaa.Den
