/- Words for the plain half of the proofs: numbers, answers, loops. -/
import Derived.Test.YtjnkefbdpcbkmaaK0
namespace Go.Proofs.Ytjnkefbdpcbkmaa.Den
open Go
set_option linter.unusedVariables false
set_option linter.unusedSimpArgs false

theorem w64_id {x : Int} (h1 : -9223372036854775808 ≤ x) (h2 : x ≤ 9223372036854775807) : w64 x = x := by
  unfold w64 IntKind.wrap
  simp only [show IntKind.i64.bits = 64 from rfl, show IntKind.i64.signed = true from rfl, Bool.true_and, decide_eq_true_eq]
  rw [show (2 : Int) ^ 64 = 18446744073709551616 from by decide, show (2 : Int) ^ (64 - 1) = 9223372036854775808 from by decide]
  split <;> omega
theorem w64_range (x : Int) : -9223372036854775808 ≤ w64 x ∧ w64 x ≤ 9223372036854775807 := by
  unfold w64 IntKind.wrap
  simp only [show IntKind.i64.bits = 64 from rfl, show IntKind.i64.signed = true from rfl, Bool.true_and, decide_eq_true_eq]
  rw [show (2 : Int) ^ 64 = 18446744073709551616 from by decide, show (2 : Int) ^ (64 - 1) = 9223372036854775808 from by decide]
  split <;> omega

/-- It answers, and the answer is so. -/
def Ret {R : Type} (o : Option R) (Q : R → Prop) : Prop := ∃ r, o = some r ∧ Q r

section
variable {R S V : Type} {Q : R → Prop} {x y : Option R}

theorem Ret.ret {r : R} (h : Q r) : Ret (some r) Q := ⟨r, rfl, h⟩
theorem Ret.mono {Q' : R → Prop} (h : Ret x Q) (h2 : ∀ r, Q r → Q' r) : Ret x Q' := by
  obtain ⟨r, h1, h3⟩ := h; exact ⟨r, h1, h2 r h3⟩
theorem Ret.bind {o : Option S} {k : S → Option R} {P : S → Prop} (h : Ret o P) (hk : ∀ s, P s → Ret (k s) Q) : Ret (o.bind k) Q := by
  obtain ⟨s, h1, h2⟩ := h
  subst h1; exact hk s h2
theorem Ret.cond {b : Bool} (ht : b = true → Ret x Q) (hf : b = false → Ret y Q) : Ret (cond b x y) Q := by
  cases b
  · exact hf rfl
  · exact ht rfl
theorem Ret.tst {b : Bool} (hb : b = true) (h : Ret x Q) : Ret (tst b x) Q := by
  subst hb; exact h
theorem Ret.eq {r : R} (h : Ret x fun s => s = r) : x = some r := by
  obtain ⟨s, h1, h2⟩ := h; rw [h1, h2]
theorem Ret.of {r : R} (h : x = some r) : Ret x fun s => s = r := ⟨r, h, rfl⟩

/-- A loop, by a relation that holds ahead of each round and a bound on the rounds. -/
theorem Ret.loop {step : (V → Option R) → V → Option R} (I : Nat → V → Prop) (h : ∀ (n : Nat) (v : V) (g : V → Option R), I n v → (∀ m v', m < n → I m v' → Ret (g v') Q) → Ret (step g v) Q) :
    ∀ (fuel n : Nat) (v : V), I n v → n < fuel → Ret (iter step fuel v) Q
  | 0, n, v, _, h2 => by omega
  | fuel + 1, n, v, h1, h2 => h n v _ h1 fun m v' h3 h4 => Ret.loop I h fuel m v' h4 (by omega)
/-- A loop whose answer is told by the relation. -/
theorem Ret.loopR {step : (V → Option R) → V → Option R} (I : Nat → V → R → Prop) (h : ∀ (n : Nat) (v : V) (r : R) (g : V → Option R), I n v r → (∀ m v', m < n → I m v' r → g v' = some r) → step g v = some r) :
    ∀ (fuel n : Nat) (v : V) (r : R), I n v r → n < fuel → iter step fuel v = some r
  | 0, n, v, r, _, h2 => by omega
  | fuel + 1, n, v, r, h1, h2 => h n v r _ h1 fun m v' h3 h4 => Ret.loopR I h fuel m v' r h4 (by omega)
end
end Go.Proofs.Ytjnkefbdpcbkmaa.Den
