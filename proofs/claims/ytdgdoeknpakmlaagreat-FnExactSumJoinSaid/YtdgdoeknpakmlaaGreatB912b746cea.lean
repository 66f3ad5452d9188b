/- Part 8 of the texts behind the row. -/
import Derived.Test.YtdgdoeknpakmlaaGreatBd06703a0d4
set_option linter.unusedVariables false
set_option linter.unusedSimpArgs false
namespace Go.Proofs.YtdgdoeknpakmlaaGreat.Den
open Go
theorem w64_id {x : Int} (h1 : -9223372036854775808 ≤ x) (h2 : x ≤ 9223372036854775807) : w64 x = x := by
  unfold w64 IntKind.wrap
  simp only [show IntKind.i64.bits = 64 from rfl, show IntKind.i64.signed = true from rfl, Bool.true_and, decide_eq_true_eq]
  rw [show (2 : Int) ^ 64 = 18446744073709551616 from by decide, show (2 : Int) ^ (64 - 1) = 9223372036854775808 from by decide]
  split <;> omega
def Ret {R : Type} (o : Option R) (Q : R → Prop) : Prop := ∃ r, o = some r ∧ Q r
section
variable {R S V : Type} {Q : R → Prop} {x y : Option R}
theorem Ret.ret {r : R} (h : Q r) : Ret (some r) Q := ⟨r, rfl, h⟩
theorem Ret.mono {Q' : R → Prop} (h : Ret x Q) (h2 : ∀ r, Q r → Q' r) : Ret x Q' := by
  obtain ⟨r, h1, h3⟩ := h; exact ⟨r, h1, h2 r h3⟩
theorem Ret.bind {o : Option S} {k : S → Option R} {P : S → Prop} (h : Ret o P) (hk : ∀ s, P s → Ret (k s) Q) : Ret (o.bind k) Q := by
  obtain ⟨s, h1, h2⟩ := h
  subst h1; exact hk s h2
theorem Ret.cond {b : Bool} (ht : b = true → Ret x Q) (hf : b = false → Ret y Q) : Ret (cond b x y) Q := by
  cases b
  · exact hf rfl
  · exact ht rfl
theorem Ret.tst {b : Bool} (hb : b = true) (h : Ret x Q) : Ret (tst b x) Q := by
  subst hb; exact h
theorem Ret.of {r : R} (h : x = some r) : Ret x fun s => s = r := ⟨r, h, rfl⟩
theorem Ret.loop {step : (V → Option R) → V → Option R} (I : Nat → V → Prop) (h : ∀ (n : Nat) (v : V) (g : V → Option R), I n v → (∀ m v', m < n → I m v' → Ret (g v') Q) → Ret (step g v) Q) :
    ∀ (fuel n : Nat) (v : V), I n v → n < fuel → Ret (iter step fuel v) Q
  | 0, n, v, _, h2 => by omega
  | fuel + 1, n, v, h1, h2 => h n v _ h1 fun m v' h3 h4 => Ret.loop I h fuel m v' h4 (by omega)
end
end Go.Proofs.YtdgdoeknpakmlaaGreat.Den
namespace Go.Proofs.YtdgdoeknpakmlaaGreat.Den
open Go
section
variable {R V α β : Type} {σ : Type}
def upGo (body : Nat → (σ → Option R) → σ → Option R) (fin : σ → Option R) : Nat → Nat → σ → Option R
  | 0, _, s => fin s
  | d + 1, i, s => body i (upGo body fin d (i + 1)) s
def goL (b : α → (σ → Option R) → σ → Option R) (fin : σ → Option R) : List α → σ → Option R
  | [], s => fin s
  | x :: r, s => b x (goL b fin r) s
theorem iter_up {st : (V → Option R) → V → Option R} {enc : Nat → σ → V} {body : Nat → (σ → Option R) → σ → Option R} {fin : σ → Option R} (n : Nat)
    (hs : ∀ i s g, i < n → st g (enc i s) = body i (fun s' => g (enc (i + 1) s')) s) (he : ∀ s g, st g (enc n s) = fin s) :
    ∀ (d i : Nat) (s : σ) (fuel : Nat), i + d = n → d < fuel → iter st fuel (enc i s) = upGo body fin d i s
  | 0, i, s, fuel + 1, hi, hf => by
    obtain rfl : i = n := by omega
    rw [iter, he]; rfl
  | d + 1, i, s, fuel + 1, hi, hf => by
    rw [iter, hs i s _ (by omega)]
    show body i _ s = body i _ s
    congr 1
    funext s'
    exact iter_up n hs he d (i + 1) s' fuel (by omega) (by omega)
theorem zad {l : List α} {i : Nat} (d : α) (h : i < l.length) : l.drop i = l.getD i d :: l.drop (i + 1) := by
  rw [List.drop_eq_getElem_cons h, List.getD_eq_getElem?_getD, List.getElem?_eq_getElem h]; rfl
theorem zD {st : (V → Option R) → V → Option R} {enc : Nat → σ → V} (b : α → (σ → Option R) → σ → Option R) (fin : σ → Option R) (l : List α) (d0 : α)
    (hs : ∀ i s g, i < l.length → st g (enc i s) = b (l.getD i d0) (fun s' => g (enc (i + 1) s')) s) (he : ∀ s g, st g (enc l.length s) = fin s)
    (fuel : Nat) (s : σ) (hf : l.length < fuel) : iter st fuel (enc 0 s) = goL b fin l s := by
  rw [iter_up (body := fun i => b (l.getD i d0)) (fin := fin) l.length hs he l.length 0 s fuel (by omega) hf]
  have : ∀ (d i : Nat) (s : σ), i + d = l.length → upGo (fun i => b (l.getD i d0)) fin d i s = goL b fin (l.drop i) s := by
    intro d
    induction d with
    | zero => intro i s h; rw [List.drop_eq_nil_of_le (by omega)]; rfl
    | succ d ih =>
      intro i s h
      rw [zad d0 (show i < l.length by omega)]
      show b _ _ s = b _ _ s
      congr 1
      funext s'
      exact ih (i + 1) s' (by omega)
  exact this l.length 0 s (by omega)
theorem zCo {st : (V → Option R) → V → Option R} {enc : Nat → σ → V} (b : α → β → (σ → Option R) → σ → Option R) (fin : σ → Option R) (l : List α) (d0 : α) (p0 : β) (key : α → β)
    (hs : ∀ i s g, i < l.length → st g (enc i s) = b (l.getD i d0) (if i = 0 then p0 else key (l.getD (i - 1) d0)) (fun s' => g (enc (i + 1) s')) s) (he : ∀ s g, st g (enc l.length s) = fin s)
    (fuel : Nat) (s : σ) (hf : l.length < fuel) : iter st fuel (enc 0 s) = goL (fun x k (ps : β × σ) => b x ps.1 (fun s' => k (key x, s')) ps.2) (fun ps => fin ps.2) l (p0, s) := by
  rw [iter_up (body := fun i => b (l.getD i d0) (if i = 0 then p0 else key (l.getD (i - 1) d0))) (fin := fin) l.length hs he l.length 0 s fuel (by omega) hf]
  have : ∀ (d i : Nat) (s : σ), i + d = l.length → upGo (fun i => b (l.getD i d0) (if i = 0 then p0 else key (l.getD (i - 1) d0))) fin d i s
      = goL (fun x k (ps : β × σ) => b x ps.1 (fun s' => k (key x, s')) ps.2) (fun ps => fin ps.2) (l.drop i) (if i = 0 then p0 else key (l.getD (i - 1) d0), s) := by
    intro d
    induction d with
    | zero => intro i s h; rw [List.drop_eq_nil_of_le (by omega)]; rfl
    | succ d ih =>
      intro i s h
      rw [zad d0 (show i < l.length by omega)]
      show b _ _ _ s = b _ _ _ s
      congr 1
      funext s'
      have := ih (i + 1) s' (by omega)
      simpa using this
  exact this l.length 0 s (by omega)
theorem all_go {b : α → (σ → Option R) → σ → Option R} {fin : σ → Option R} (p : α → Bool) (r : R) (h : ∀ x k s, b x k s = cond (p x) (k s) (some r)) :
    ∀ (l : List α) (s : σ), goL b fin l s = cond (l.all p) (fin s) (some r)
  | [], s => rfl
  | x :: l, s => by
    show b x _ s = _
    rw [h, all_go p r h l s, List.all_cons]
    cases p x <;> rfl
theorem fold_go {b : α → (σ → Option R) → σ → Option R} {fin : σ → Option R} (u : σ → α → σ) (h : ∀ x k s, b x k s = k (u s x)) :
    ∀ (l : List α) (s : σ), goL b fin l s = fin (l.foldl u s)
  | [], s => rfl
  | x :: l, s => by
    show b x _ s = _
    rw [h, fold_go u h l]; rfl
theorem zCp {out : List β} {i : Nat} {y : β} (h : i < out.length) (r : List β) : (out.set i y).take (i + 1) ++ r = out.take i ++ y :: r := by
  rw [List.take_succ_eq_append_getElem (by simpa using h), List.getElem_set_self, List.take_set_of_le (Nat.le_refl i), List.append_assoc]; rfl
theorem zCq {st : (V → Option R) → V → Option R} {enc : Nat → List β → V} (fin : List β → Option R) (l : List α) (d0 : α) (h : α → β)
    (hs : ∀ i out g, i < l.length → out.length = l.length → st g (enc i out) = g (enc (i + 1) (out.set i (h (l.getD i d0))))) (he : ∀ out g, st g (enc l.length out) = fin out) :
    ∀ (d i : Nat) (out : List β) (fuel : Nat), i + d = l.length → out.length = l.length → d < fuel → iter st fuel (enc i out) = fin (out.take i ++ (l.drop i).map h)
  | 0, i, out, fuel + 1, hi, ho, hf => by
    obtain rfl : i = l.length := by omega
    rw [iter, he, List.drop_eq_nil_of_le (Nat.le_refl _), ← ho, List.take_length]; simp
  | d + 1, i, out, fuel + 1, hi, ho, hf => by
    rw [iter, hs i out _ (by omega) ho, zCq fin l d0 h hs he d (i + 1) _ fuel (by omega) (by simpa using ho) (by omega), zCp (by omega), zad d0 (show i < l.length by omega)]
    rfl
theorem zhY {st : (V → Option R) → V → Option R} {enc : Nat → List β → V} (fin : List β → Option R) (l : List α) (d0 : α) (h : α → β)
    (hs : ∀ i out g, i < l.length → out.length = l.length → st g (enc i out) = g (enc (i + 1) (out.set i (h (l.getD i d0))))) (he : ∀ out g, st g (enc l.length out) = fin out)
    (fuel : Nat) (z : β) (hf : l.length < fuel) : iter st fuel (enc 0 (List.replicate l.length z)) = fin (l.map h) := by
  rw [zCq fin l d0 h hs he l.length 0 _ fuel (by omega) (by simp) hf]; rfl
theorem zhZ {st : (V → Option R) → V → Option R} {enc : Nat → V} (r : Option R) (n : Nat)
    (hs : ∀ i g, i < n → st g (enc i) = g (enc (i + 1))) (he : ∀ g, st g (enc n) = r) : ∀ (d i fuel : Nat), i + d = n → d < fuel → iter st fuel (enc i) = r
  | 0, i, fuel + 1, hi, hf => by
    obtain rfl : i = n := by omega
    rw [iter, he]
  | d + 1, i, fuel + 1, hi, hf => by
    rw [iter, hs i _ (by omega), zhZ r n hs he d (i + 1) fuel (by omega) (by omega)]
theorem zOg {out : List β} {i : Nat} {y : β} : (out.set i y).drop (i + 1) = out.drop (i + 1) := by
  rw [List.drop_set_of_lt (by omega)]
theorem zma {st : (V → Option R) → V → Option R} {enc : Nat → List β → V} (fin : List β → Option R) (n : Nat) (b : List α) (d0 : β) (e0 : α) (f : β → α → β) (hb : b.length = n)
    (hs : ∀ i out g, i < n → out.length = n → st g (enc i out) = g (enc (i + 1) (out.set i (f (out.getD i d0) (b.getD i e0))))) (he : ∀ out g, out.length = n → st g (enc n out) = fin out) :
    ∀ (d i : Nat) (out : List β) (fuel : Nat), i + d = n → out.length = n → d < fuel → iter st fuel (enc i out) = fin (out.take i ++ List.zipWith f (out.drop i) (b.drop i))
  | 0, i, out, fuel + 1, hi, ho, hf => by
    obtain rfl : i = n := by omega
    rw [iter, he _ _ ho, List.drop_eq_nil_of_le (by omega), List.take_of_length_le (by omega)]; simp
  | d + 1, i, out, fuel + 1, hi, ho, hf => by
    rw [iter, hs i out _ (by omega) ho, zma fin n b d0 e0 f hb hs he d (i + 1) _ fuel (by omega) (by simpa using ho) (by omega), zOg, zCp (by omega), zad d0 (show i < out.length by omega), zad e0 (show i < b.length by omega)]
    rfl
end
theorem w64_up {i : Nat} (h : i < 4294967296) : w64 ((i : Int) + 1) = ((i + 1 : Nat) : Int) := by rw [w64_id] <;> omega
theorem w64_dn {i : Nat} (h0 : i ≠ 0) (h : i < 4294967296) : w64 ((i : Int) - 1) = ((i - 1 : Nat) : Int) := by rw [w64_id] <;> omega
theorem lt_cast {i n : Nat} (h : i < n) : (i : Int) < (n : Int) := by omega
theorem zb {n : Nat} : ¬ ((n : Int) < (n : Int)) := by omega
theorem le_cast {i : Nat} : (0 : Int) ≤ (i : Int) := by omega
theorem zCr {i : Nat} (h : i = 0) : ¬ ((i : Int) > 0) := by omega
theorem zCs {i : Nat} (h : i ≠ 0) : (i : Int) > 0 := by omega
end Go.Proofs.YtdgdoeknpakmlaaGreat.Den
