/- Part 8 of the texts behind the row. -/
import Derived.Test.YtmkekjmckdkcnaaAER7
set_option linter.unusedVariables false
set_option linter.unusedSimpArgs false
namespace Go.Proofs.Ytmkekjmckdkcnaa.Den
open Go
abbrev BIG : Nat := 1000000000000000
theorem set_mid {α : Type} {x y : α} {r : List α} : ∀ {p : List α}, (p ++ x :: r).set p.length y = p ++ y :: r
  | [] => rfl
  | z :: p => by simp [set_mid (p := p)]
theorem zed {α : Type} {x d : α} {r : List α} : ∀ {p : List α}, (p ++ x :: r).getD p.length d = x
  | [] => rfl
  | z :: p => by simp
theorem len_mid {α : Type} {x : α} {p r : List α} : (p ++ x :: r).length = p.length + r.length + 1 := by simp; omega
theorem markLoop {e : Kd} (he0 : e.noList = true) {st : (Int × Int × List e.T → Option (List e.T × ((Int × Unit) × Unit))) → Int × Int × List e.T → Option (List e.T × ((Int × Unit) × Unit))}
    (hs : ∀ (p r : List e.T) (x : e.T) (k : Int) g, 0 ≤ k → k + flK e ≤ BIG → p.length + r.length + 1 < 4294967296 → st g ((p.length : Int), k, p ++ x :: r) = g (((p.length + 1 : Nat) : Int), (markK e x k).2, p ++ (markK e x k).1 :: r))
    (he : ∀ (l : List e.T) (k : Int) g, st g ((l.length : Int), k, l) = some (l, (k, ()), ())) :
    ∀ (r p : List e.T) (k : Int) (fuel : Nat), 0 ≤ k → k + ((r.length * flK e : Nat) : Int) ≤ BIG → p.length + r.length < 4294967296 → r.length < fuel → iter st fuel ((p.length : Int), k, p ++ r) = some (p ++ (markK (.list e) r k).1, ((markK (.list e) r k).2, ()), ())
  | [], p, k, fuel + 1, _, _, _, _ => by
    rw [iter, List.append_nil, he, zo2, List.append_nil]
  | x :: r, p, k, fuel + 1, h0, h1, hl, hf => by
    simp only [List.length_cons] at h1 hl hf
    have e1 : (r.length + 1) * flK e = r.length * flK e + flK e := by rw [Nat.add_mul, Nat.one_mul]
    rw [iter, hs p r x k _ h0 (by omega) (by omega)]
    have hk : k ≤ (markK e x k).2 ∧ (markK e x k).2 ≤ k + flK e := by
      have := zn (K := e) (x := x) (k := k) (wdK e) (Nat.le_refl _)
      rw [zgp he0] at this
      simpa using this
    have ih := markLoop he0 hs he r (p ++ [(markK e x k).1]) (markK e x k).2 fuel (by omega) (by omega) (by simp; omega) (by omega)
    rw [List.length_append, List.length_singleton, List.append_assoc, List.singleton_append] at ih
    rw [ih, zec]
    simp
theorem zjD (f : Nat) (hf : 1048576 < f) (l : List (Kd.T I6)) (k : Int) (hl : l.length ≤ 1048576) (h0 : 0 ≤ k) (h1 : k + ((16 * l.length : Nat) : Int) ≤ BIG) : zaM f (l, k) = some (markK (.list I6) l k) := by
  have h := markLoop (e := I6) rfl (st := zgX f)
    (fun p r x k g h0 h1 hl => by
      have h1 : k + (1 : Nat) ≤ (1000000000000000 : Nat) := h1
      show zb1 f g _ = _
      unfold zb1
      have g1 : (p.length : Int) < ((p.length + r.length + 1 : Nat) : Int) := by omega
      have g2 : p.length < p.length + r.length + 1 := by omega
      have e3 : w64 (k + 1) = k + 1 := by rw [w64_id] <;> omega
      have e4 : w64 (k + 1 + 1) = k + 1 + 1 := by rw [w64_id] <;> omega
      simp only [zz_eq, len_mid, set_mid, zed, g1, g2, le_cast, decide_true, cond_true, Int.toNat_natCast, w64_up (show p.length < 4294967296 by omega), e3, e4]
      rfl)
    (fun l k g => by
      show zb1 f g _ = _
      unfold zb1
      simp only [zz_eq, zf, decide_false, cond_false])
    l [] k f h0 (by have e : flK I6 = 1 := rfl; rw [e]; omega) (by simp; omega) (by omega)
  unfold zaM
  have h2 : zgY f (l, (), ((k, ()), ())) = some ([] ++ (markK (.list I6) l k).1, ((markK (.list I6) l k).2, ()), ()) := h
  rw [h2]; rfl
theorem zwB (f : Nat) (hf : 1048576 < f) (l : List (Kd.T .bool)) (k : Int) (hl : l.length ≤ 1048576) (h0 : 0 ≤ k) (h1 : k + ((16 * l.length : Nat) : Int) ≤ BIG) : zcf f (l, k) = some (markK (.list .bool) l k) := by
  have h := markLoop (e := .bool) rfl (st := zg9 f)
    (fun p r x k g h0 h1 hl => by
      have h1 : k + (1 : Nat) ≤ (1000000000000000 : Nat) := h1
      show zce f g _ = _
      unfold zce
      have g1 : (p.length : Int) < ((p.length + r.length + 1 : Nat) : Int) := by omega
      have g2 : p.length < p.length + r.length + 1 := by omega
      have e3 : w64 (k + 1) = k + 1 := by rw [w64_id] <;> omega
      have e4 : w64 (k + 1 + 1) = k + 1 + 1 := by rw [w64_id] <;> omega
      simp only [zz_eq, len_mid, set_mid, zed, g1, g2, le_cast, decide_true, cond_true, Int.toNat_natCast, w64_up (show p.length < 4294967296 by omega), e3, e4]
      rfl)
    (fun l k g => by
      show zce f g _ = _
      unfold zce
      simp only [zz_eq, zf, decide_false, cond_false])
    l [] k f h0 (by have e : flK .bool = 1 := rfl; rw [e]; omega) (by simp; omega) (by omega)
  unfold zcf
  have h2 : zha f (l, (), ((k, ()), ())) = some ([] ++ (markK (.list .bool) l k).1, ((markK (.list .bool) l k).2, ()), ()) := h
  rw [h2]; rfl
theorem zwC (f : Nat) (hf : 1048576 < f) (l : List (Kd.T KP)) (k : Int) (hl : l.length ≤ 1048576) (h0 : 0 ≤ k) (h1 : k + ((16 * l.length : Nat) : Int) ≤ BIG) : zeE f (l, k) = some (markK (.list KP) l k) := by
  have h := markLoop (e := KP) rfl (st := zg1 f)
    (fun p r x k g h0 h1 hl => by
      have h1 : k + (2 : Nat) ≤ (1000000000000000 : Nat) := h1
      show zb6 f g _ = _
      unfold zb6
      have g1 : (p.length : Int) < ((p.length + r.length + 1 : Nat) : Int) := by omega
      have g2 : p.length < p.length + r.length + 1 := by omega
      have e3 : w64 (k + 1) = k + 1 := by rw [w64_id] <;> omega
      have e4 : w64 (k + 1 + 1) = k + 1 + 1 := by rw [w64_id] <;> omega
      simp only [zz_eq, len_mid, set_mid, zed, g1, g2, le_cast, decide_true, cond_true, Int.toNat_natCast, w64_up (show p.length < 4294967296 by omega), e3, e4]
      rfl)
    (fun l k g => by
      show zb6 f g _ = _
      unfold zb6
      simp only [zz_eq, zf, decide_false, cond_false])
    l [] k f h0 (by have e : flK KP = 2 := rfl; rw [e]; omega) (by simp; omega) (by omega)
  unfold zeE
  have h2 : zg2 f (l, (), ((k, ()), ())) = some ([] ++ (markK (.list KP) l k).1, ((markK (.list KP) l k).2, ()), ()) := h
  rw [h2]; rfl
theorem zwD (f : Nat) (hf : 1048576 < f) (l : List (Kd.T KP)) (k : Int) (hl : l.length ≤ 1048576) (h0 : 0 ≤ k) (h1 : k + ((16 * l.length : Nat) : Int) ≤ BIG) : zeF f (l, k) = some (markK (.list KP) l k) := by
  have h := markLoop (e := KP) rfl (st := zg5 f)
    (fun p r x k g h0 h1 hl => by
      have h1 : k + (2 : Nat) ≤ (1000000000000000 : Nat) := h1
      show zca f g _ = _
      unfold zca
      have g1 : (p.length : Int) < ((p.length + r.length + 1 : Nat) : Int) := by omega
      have g2 : p.length < p.length + r.length + 1 := by omega
      have e3 : w64 (k + 1) = k + 1 := by rw [w64_id] <;> omega
      have e4 : w64 (k + 1 + 1) = k + 1 + 1 := by rw [w64_id] <;> omega
      simp only [zz_eq, len_mid, set_mid, zed, g1, g2, le_cast, decide_true, cond_true, Int.toNat_natCast, w64_up (show p.length < 4294967296 by omega), e3, e4]
      rfl)
    (fun l k g => by
      show zca f g _ = _
      unfold zca
      simp only [zz_eq, zf, decide_false, cond_false])
    l [] k f h0 (by have e : flK KP = 2 := rfl; rw [e]; omega) (by simp; omega) (by omega)
  unfold zeF
  have h2 : zg6 f (l, (), ((k, ()), ())) = some ([] ++ (markK (.list KP) l k).1, ((markK (.list KP) l k).2, ()), ()) := h
  rw [h2]; rfl
theorem zpl (f : Nat) (hf : 1048576 < f) (l : List (Kd.T (.list I6))) (k : Int) (hl : szK (.list (.list I6)) l ≤ 1048576) (h0 : 0 ≤ k) (h1 : k + ((16 * szK (.list (.list I6)) l : Nat) : Int) ≤ BIG) : zch f (l, k) = some (markK (.list (.list I6)) l k) := by
  have h : l.length ≤ 1048576 := Nat.le_trans szK_len hl
  unfold zch
  rw [if_pos h]
  refine zbF (w := 16) (B := BIG) (by decide) (fun x hx k h2 h3 => ?_) h0 h1
  have hx' : szK (.list I6) x + l.length ≤ szK (.list (.list I6)) l := szK_mem hx
  have hfl : flK (.list I6) = 0 := rfl
  rw [hfl] at h3
  unfold zcg
  have hl2 := szK_len (e := I6) (xs := x)
  rw [zjD f hf x k (by omega) h2 (by omega)]; rfl
theorem zwE (f : Nat) (hf : 1048576 < f) (l : List (Kd.T (.list (.list I6)))) (k : Int) (hl : szK (.list (.list (.list I6))) l ≤ 1048576) (h0 : 0 ≤ k) (h1 : k + ((16 * szK (.list (.list (.list I6))) l : Nat) : Int) ≤ BIG) : zcj f (l, k) = some (markK (.list (.list (.list I6))) l k) := by
  have h : l.length ≤ 1048576 := Nat.le_trans szK_len hl
  unfold zcj
  rw [if_pos h]
  refine zbF (w := 16) (B := BIG) (by decide) (fun x hx k h2 h3 => ?_) h0 h1
  have hx' : szK (.list (.list I6)) x + l.length ≤ szK (.list (.list (.list I6))) l := szK_mem hx
  have hfl : flK (.list (.list I6)) = 0 := rfl
  rw [hfl] at h3
  unfold zci
  rw [zpl f hf x k (by omega) h2 (by omega)]; rfl
theorem zpm (f : Nat) (hf : 1048576 < f) (l : List (Kd.T KE)) (k : Int) (hl : szK (.list KE) l ≤ 1048576) (h0 : 0 ≤ k) (h1 : k + ((16 * szK (.list KE) l : Nat) : Int) ≤ BIG) : zcl f (l, k) = some (markK (.list KE) l k) := by
  have h : l.length ≤ 1048576 := Nat.le_trans szK_len hl
  unfold zcl
  rw [if_pos h]
  refine zbF (w := 16) (B := BIG) (by decide) (fun x hx k h2 h3 => ?_) h0 h1
  have hx' : szK KE x + l.length ≤ szK (.list KE) l := szK_mem hx
  have hfl : flK KE = 6 := rfl
  rw [hfl] at h3
  unfold zck
  obtain ⟨nd, bo, nu, ⟨⟨rs, ⟨⟩⟩, ⟨ms, ⟨⟩⟩, ⟨ps, lost, tall, ⟨⟩⟩, ⟨ks, rall, ⟨⟩⟩, ⟨⟩⟩, ⟨⟩⟩ := x
  have e : szK KE (nd, bo, nu, ((rs, ()), (ms, ()), (ps, lost, tall, ()), (ks, rall, ()), ()), ()) = szK (.list (.list I6)) rs + (szK (.list I6) ms + (szK (.list KP) ps + (szK (.list KP) ks + 0))) := by
    simp only [szK]; omega
  rw [e] at hx' h3
  have hB : BIG = 1000000000000000 := rfl
  have l2 := szK_len (e := I6) (xs := ms); have l3 := szK_len (e := KP) (xs := ps); have l4 := szK_len (e := KP) (xs := ks)
  have c1 : w64 (k + 1) = k + 1 := by rw [w64_id] <;> omega
  have c2 : w64 (k + 1 + 1) = k + 1 + 1 := by rw [w64_id] <;> omega
  have c3 : w64 (k + 1 + 1 + 1) = k + 1 + 1 + 1 := by rw [w64_id] <;> omega
  have f1 := zn (K := .list (.list I6)) (x := rs) (k := k + 1 + 1 + 1) 16 (by decide)
  have f2 := zn (K := .list I6) (x := ms) (k := (markK (.list (.list I6)) rs (k + 1 + 1 + 1)).2) 16 (by decide)
  have z1 : flK (.list (.list I6)) = 0 := rfl
  have z2 : flK (.list I6) = 0 := rfl
  have z3 : flK (.list KP) = 0 := rfl
  rw [z1] at f1; rw [z2] at f2
  simp only [c1, c2, c3]
  rw [zpl f hf rs _ (by omega) (by omega) (by omega), Option.bind_some, zjD f hf ms _ (by omega) (by omega) (by omega), Option.bind_some]
  generalize hk2 : markK (.list I6) ms (markK (.list (.list I6)) rs (k + 1 + 1 + 1)).2 = M2 at f2 ⊢
  have f3 := zn (K := .list KP) (x := ps) (k := M2.2) 16 (by decide)
  rw [z3] at f3
  rw [zwC f hf ps _ (by omega) (by omega) (by omega), Option.bind_some]
  generalize hk3 : markK (.list KP) ps M2.2 = M3 at f3 ⊢
  have c4 : w64 (M3.2 + 1) = M3.2 + 1 := by rw [w64_id] <;> omega
  have c5 : w64 (M3.2 + 1 + 1) = M3.2 + 1 + 1 := by rw [w64_id] <;> omega
  simp only [c4, c5]
  have f4 := zn (K := .list KP) (x := ks) (k := M3.2 + 1 + 1) 16 (by decide)
  rw [z3] at f4
  rw [zwD f hf ks _ (by omega) (by omega) (by omega), Option.bind_some]
  generalize hk4 : markK (.list KP) ks (M3.2 + 1 + 1) = M4 at f4 ⊢
  have c6 : w64 (M4.2 + 1) = M4.2 + 1 := by rw [w64_id] <;> omega
  simp only [c6]
  subst hk4; subst hk3; subst hk2
  rfl
theorem zwF (f : Nat) (hf : 1048576 < f) (l : List (Kd.T KN)) (k : Int) (hl : szK (.list KN) l ≤ 1048576) (h0 : 0 ≤ k) (h1 : k + ((16 * szK (.list KN) l : Nat) : Int) ≤ BIG) : zcn f (l, k) = some (markK (.list KN) l k) := by
  have h : l.length ≤ 1048576 := Nat.le_trans szK_len hl
  unfold zcn
  rw [if_pos h]
  refine zbF (w := 16) (B := BIG) (by decide) (fun x hx k h2 h3 => ?_) h0 h1
  have hx' : szK KN x + l.length ≤ szK (.list KN) l := szK_mem hx
  have hfl : flK KN = 4 := rfl
  rw [hfl] at h3
  unfold zcm
  obtain ⟨bo, kn, be, le, up, ⟨⟩⟩ := x
  have e : szK KN (bo, kn, be, le, up, ()) = szK (.list KE) kn := by simp only [szK]; omega
  rw [e] at hx' h3
  have hB : BIG = 1000000000000000 := rfl
  have c1 : w64 (k + 1) = k + 1 := by rw [w64_id] <;> omega
  have f1 := zn (K := .list KE) (x := kn) (k := k + 1) 16 (by decide)
  have z1 : flK (.list KE) = 0 := rfl
  rw [z1] at f1
  simp only [c1]
  rw [zpm f hf kn _ (by omega) (by omega) (by omega), Option.bind_some]
  generalize hk2 : markK (.list KE) kn (k + 1) = M at f1 ⊢
  have d1 : w64 (M.2 + 1) = M.2 + 1 := by rw [w64_id] <;> omega
  have d2 : w64 (M.2 + 1 + 1) = M.2 + 1 + 1 := by rw [w64_id] <;> omega
  have d3 : w64 (M.2 + 1 + 1 + 1) = M.2 + 1 + 1 + 1 := by rw [w64_id] <;> omega
  simp only [d1, d2, d3]
  subst hk2
  rfl
theorem zwG (f : Nat) (hf : 1048576 < f) (l : List (Kd.T KW)) (k : Int) (hl : szK (.list KW) l ≤ 1048576) (h0 : 0 ≤ k) (h1 : k + ((16 * szK (.list KW) l : Nat) : Int) ≤ BIG) : zcp f (l, k) = some (markK (.list KW) l k) := by
  have h : l.length ≤ 1048576 := Nat.le_trans szK_len hl
  unfold zcp
  rw [if_pos h]
  refine zbF (w := 16) (B := BIG) (by decide) (fun x hx k h2 h3 => ?_) h0 h1
  have hx' : szK KW x + l.length ≤ szK (.list KW) l := szK_mem hx
  have hfl : flK KW = 5 := rfl
  rw [hfl] at h3
  unfold zco
  obtain ⟨ki, fr, to, be, le, kn, ⟨⟩⟩ := x
  have e : szK KW (ki, fr, to, be, le, kn, ()) = szK (.list KE) kn := by simp only [szK]; omega
  rw [e] at hx' h3
  have hB : BIG = 1000000000000000 := rfl
  have c1 : w64 (k + 1) = k + 1 := by rw [w64_id] <;> omega
  have c2 : w64 (k + 1 + 1) = k + 1 + 1 := by rw [w64_id] <;> omega
  have c3 : w64 (k + 1 + 1 + 1) = k + 1 + 1 + 1 := by rw [w64_id] <;> omega
  have c4 : w64 (k + 1 + 1 + 1 + 1) = k + 1 + 1 + 1 + 1 := by rw [w64_id] <;> omega
  have c5 : w64 (k + 1 + 1 + 1 + 1 + 1) = k + 1 + 1 + 1 + 1 + 1 := by rw [w64_id] <;> omega
  simp only [c1, c2, c3, c4, c5]
  rw [zpm f hf kn _ (by omega) (by omega) (by omega), Option.bind_some]
  rfl
theorem zwH (f : Nat) (hf : 1048576 < f) (n : NetY) (k : Int) (hl : szK KNET n ≤ 1048576) (h0 : 0 ≤ k) (h1 : k + ((16 * szK KNET n : Nat) : Int) ≤ BIG) : zaQ f (n, k) = some (markK KNET n k) := by
  obtain ⟨ns, ls, ws, ps, ⟨⟩⟩ := n
  have e : szK KNET (ns, ls, ws, ps, ()) = szK (.list KN) ns + (szK (.list .bool) ls + (szK (.list KW) ws + (szK (.list (.list (.list I6))) ps + 0))) := by simp only [szK]
  rw [e] at hl h1
  have l2 := szK_len (e := .bool) (xs := ls)
  have f1 := zn (K := .list KN) (x := ns) (k := k) 16 (by decide)
  have f2 := zn (K := .list .bool) (x := ls) (k := (markK (.list KN) ns k).2) 16 (by decide)
  have f3 := zn (K := .list KW) (x := ws) (k := (markK (.list .bool) ls (markK (.list KN) ns k).2).2) 16 (by decide)
  have z1 : flK (.list KN) = 0 := rfl
  have z2 : flK (.list .bool) = 0 := rfl
  have z3 : flK (.list KW) = 0 := rfl
  rw [z1] at f1; rw [z2] at f2; rw [z3] at f3
  unfold zaQ
  show Option.bind (zcn f (ns, k)) _ = _
  rw [zwF f hf ns k (by omega) h0 (by omega), Option.bind_some]
  show Option.bind (zcf f (ls, _)) _ = _
  rw [zwB f hf ls _ (by omega) (by omega) (by omega), Option.bind_some]
  show Option.bind (zcp f (ws, _)) _ = _
  rw [zwG f hf ws _ (by omega) (by omega) (by omega), Option.bind_some]
  show Option.bind (zcj f (ps, _)) _ = _
  rw [zwE f hf ps _ (by omega) (by omega) (by omega), Option.bind_some]
  rfl
end Go.Proofs.Ytmkekjmckdkcnaa.Den
namespace Go.Proofs.Ytmkekjmckdkcnaa.Den
open Go
theorem zpn (f : Nat) : ∀ (r p : List Int) (k : Int) (fuel : Nat), 0 ≤ k → k + r.length ≤ BIG → p.length + r.length < 4294967296 → r.length < fuel →
    iter (ziL f) fuel ((p.length : Int), p ++ (markK (.list I6) r k).1, k) = some (((markK (.list I6) r k).2, ()), ())
  | [], p, k, fuel + 1, _, _, _, _ => by
    rw [iter]
    show zdV f _ _ = _
    unfold zdV
    rw [show markK (.list I6) ([] : List Int) k = ([], k) from rfl]
    simp only [List.append_nil, zz_eq, zf, decide_false, cond_false]
  | x :: r, p, k, fuel + 1, h0, h1, hl, hf => by
    simp only [List.length_cons] at h1 hl hf
    have hB : BIG = 1000000000000000 := rfl
    rw [iter]
    show zdV f _ _ = _
    unfold zdV
    have e : markK (.list I6) (x :: r) k = (k :: (markK (.list I6) r (k + 1)).1, (markK (.list I6) r (k + 1)).2) := zec
    have hm : (markK (.list I6) r (k + 1)).1.length = r.length := zo3
    have g1 : (p.length : Int) < ((p.length + r.length + 1 : Nat) : Int) := by omega
    have e3 : w64 (k + 1) = k + 1 := by rw [w64_id] <;> omega
    have ih := zpn f r (p ++ [k]) (k + 1) fuel (by omega) (by omega) (by simp; omega) (by omega)
    rw [List.length_append, List.length_singleton, List.append_assoc, List.singleton_append] at ih
    rw [e]
    simp only [zz_eq, len_mid, hm, zed, g1, le_cast, decide_true, cond_true, Int.toNat_natCast, w64_up (show p.length < 4294967296 by omega), e3, bne_self_eq_false, cond_false]
    exact ih
theorem zwI (f : Nat) (hf : 1048576 < f) (l : List Int) (k : Int) (hl : l.length ≤ 1048576) (h0 : 0 ≤ k) (h1 : k + ((16 * l.length : Nat) : Int) ≤ BIG) :
    zdW f (((markK (.list I6) l k).1, ()), (k, ()), ()) = some (((markK (.list I6) l k).2, ()), ()) := by
  have := zpn f l [] k f h0 (by omega) (by simp; omega) (by omega)
  exact this
theorem zwJ (L : List Bool) : (reachL L).length ≤ 5 := by
  unfold reachL
  split
  · unfold outS5
    rw [List.length_map]
    exact Nat.le_trans (List.length_filter_le _ _) (by simp)
  · simp
theorem lawExactNetReach (f : Nat) (hf : 2000000 < f) (n : NetY) (hw : wfD KNET n) : zfV f ((n.1, n.2.1, n.2.2.1, n.2.2.2.1, ()), ()) = some ((true, ()), ()) := by
  show ziN f n.1 n.2.1 n.2.2.1 n.2.2.2.1 = _
  unfold ziN
  rw [zv5 f (by omega) n hw, Option.bind_some]
  by_cases hs : szK KNET n ≤ 1048576
  · rw [szR_yes (by omega), decide_eq_false (by simp; omega), cond_false]
    have e1 := zwg f (by omega) n hs
    have e2 := zwy f (by omega) n.1 n.2.1 n.2.2.1 n.2.2.2.1
    have e3 := zwA f (by omega) n.1 n.2.1 n.2.2.1 n.2.2.2.1
    have hl := zwJ n.2.1
    have hB : BIG = 1000000000000000 := rfl
    have e4 := zjB f (reachL n.2.1) (by omega) (by omega)
    have e5 := zwr f (by omega) n hs
    have e6 := zwH f (by omega) n 1 hs (by decide) (by omega)
    have h6 := zn (K := KNET) (x := n) (k := 1) 16 (by decide)
    have e7 := zjD f (by omega) (reachL n.2.1) 1 (by omega) (by decide) (by omega)
    have h7 := zn (K := .list I6) (x := reachL n.2.1) (k := 1) 16 (by decide)
    have e8 := zwI f (by omega) (reachL n.2.1) 1 (by omega) (by decide) (by omega)
    have n6 : ¬ (markK KNET n 1).2 < 0 := by omega
    have n7 : ¬ (markK (.list I6) (reachL n.2.1) 1).2 < 0 := by omega
    have e6' : zaQ f ((n.1, n.2.1, n.2.2.1, n.2.2.2.1, ()), 1) = some (markK KNET n 1) := e6
    simp only [e1, Option.bind_some, e2, e3, e4, e5, e6', n6, e7, e8, n7, decide_false, cond_false, Bool.not_true, bne_self_eq_false]
  · rw [szR_no (by omega), decide_eq_true (by decide), cond_true]
theorem pureExactNetReach (a : CsT [(.list KN, false), (.list .bool, false), (.list KW, false), (.list (.list (.list I6)), false)]) (ha : wfCs [(.list KN, false), (.list .bool, false), (.list KW, false), (.list (.list (.list I6)), false)] a) :
    ∃ fuel, zfV fuel (a, ()) = some ((true, ()), ()) := by
  obtain ⟨ns, ls, ws, ps, ⟨⟩⟩ := a
  obtain ⟨w1, w2, w3, w4, -⟩ := ha
  exact ⟨2000001, lawExactNetReach 2000001 (by omega) (ns, ls, ws, ps, ()) ⟨w1, w2, w3, w4, trivial⟩⟩
end Go.Proofs.Ytmkekjmckdkcnaa.Den
