/- Reading by continuations is reading step by step. -/
import Derived.Test.YtjnkefbdpcbkmaaD10
namespace Go.Proofs.Ytjnkefbdpcbkmaa.Den
open Go Go.RowKit
set_option linter.unusedVariables false
set_option linter.unusedSimpArgs false

section
variable {R : Type}
theorem tst_bind {α : Type} (b : Bool) (x : Option α) (f : α → Option R) : (tst b x).bind f = tst b (x.bind f) := by cases b <;> rfl
theorem cond_bind {α : Type} (b : Bool) (x y : Option α) (f : α → Option R) : (cond b x y).bind f = cond b (x.bind f) (y.bind f) := by cases b <;> rfl
theorem none_bind {α : Type} (f : α → Option R) : (none : Option α).bind f = none := rfl
theorem some_bind {α : Type} (x : α) (f : α → Option R) : (some x).bind f = f x := rfl

theorem getC_nat (cs : List SV) (off n : Nat) (ag : Bool) (k : SV → Option R) : getC cs off n ag k = (getC cs off n ag some).bind k := by
  unfold getC
  repeat' split
  all_goals rfl

theorem ldI_nat (H : Heap) (n : Nat) (ag : Bool) (x : SV) (k : SV → Option R) : ldI H n ag x k = (ldI H n ag x some).bind k := by
  unfold ldI
  repeat' split
  all_goals first | rfl | exact getC_nat .. | (simp only [tst_bind]; first | rfl | rw [← getC_nat])

theorem stI_nat (H : Heap) (n : Nat) (x v : SV) (k : Heap → Option R) : stI H n x v k = (stI H n x v some).bind k := by
  unfold stI
  repeat' split
  all_goals first | rfl | (simp only [tst_bind]; rfl)

theorem iaI_nat (H : Heap) (sz : Nat) (x i : SV) (k : SV → Option R) : iaI H sz x i k = (iaI H sz x i some).bind k := by
  unfold iaI
  repeat' split
  all_goals first | rfl | (simp only [tst_bind]; rfl)

theorem iarI_nat (H : Heap) (len sz : Nat) (x i : SV) (k : SV → Option R) : iarI H len sz x i k = (iarI H len sz x i some).bind k := by
  unfold iarI
  repeat' split
  all_goals first | rfl | (simp only [tst_bind]; rfl)

theorem ixaI_nat (len sz : Nat) (ag : Bool) (x i : SV) (k : SV → Option R) : ixaI len sz ag x i k = (ixaI len sz ag x i some).bind k := by
  unfold ixaI
  repeat' split
  all_goals first | rfl | (simp only [tst_bind]; rw [← getC_nat])

theorem bound_nat {α : Type} (x : Option SV) (d : Option Nat) (top : Nat) (k : Nat → Option α) (f : α → Option R) : (bound x d top k).bind f = bound x d top fun n => (k n).bind f := by
  unfold bound
  repeat' split
  all_goals first | rfl | (simp only [tst_bind])

theorem slI_nat (H : Heap) (sz : Nat) (x : SV) (lo hi mx : Option SV) (k : SV → Option R) : slI H sz x lo hi mx k = (slI H sz x lo hi mx some).bind k := by
  unfold slI
  split
  · simp only [cond_bind, none_bind]
    congr 1
    split
    · rfl
    · simp only [bound_nat]
      congr 1; funext h; congr 1; funext a
      split <;> rfl
  · repeat' split
    all_goals rfl
  · rfl

theorem appI_nat (H : Heap) (K : Option Kd) (sz : Nat) (t : TypeId) (s x : SV) (k : SV → Heap → Option R) :
    appI H K sz t s x k = (appI H K sz t s x (fun v H => some (v, H))).bind fun p => k p.1 p.2 := by
  unfold appI appB
  simp only [cond_bind, none_bind]
  congr 1
  repeat' split
  all_goals first | rfl | (simp only [tst_bind]; rfl)

theorem mkI_nat (H : Heap) (K : Option Kd) (zs : List SV) (t : TypeId) (n : SV) (cap : Option SV) (k : SV → Heap → Option R) :
    mkI H K zs t n cap k = (mkI H K zs t n cap (fun v H => some (v, H))).bind fun p => k p.1 p.2 := by
  unfold mkI
  repeat' split
  all_goals first | rfl | (simp only [tst_bind]; rfl)

theorem bslI_nat (τ : Env) (H : Heap) (K : Option Kd) (frz : Bool) (sz len : Nat) (zs : List SV) (t : TypeId) (parts : List (Nat × S)) (k : SV → Heap → Option R) :
    bslI τ H K frz sz len zs t parts k = (bslI τ H K frz sz len zs t parts (fun v H => some (v, H))).bind fun p => k p.1 p.2 := by
  unfold bslI
  repeat' split
  all_goals rfl

theorem binI_nat (op : BinOp) (x y : SV) (k : SV → Option R) : binI op x y k = (binI op x y some).bind k := by
  unfold binI
  repeat' split
  all_goals first | rfl | (simp only [tst_bind]; rfl)

theorem callI_nat (T : Tab) (f : FuncId) (args : List SV) (H : Heap) (k : SV → Heap → Option R) :
    callI T f args H k = (callI T f args H (fun v H => some (v, H))).bind fun p => k p.1 p.2 := by
  unfold callI
  split
  · rfl
  · split
    · rfl
    · rename_i te _ _ x _
      cases te.fn x with
      | none => rfl
      | some y =>
        simp only [Option.bind_some]
        split <;> rfl

theorem runI_nat (T : Tab) (i : I) (τ : Env) (H : Heap) (k : SV → Heap → Option R) :
    runI T i τ H k = (runI T i τ H (fun v H => some (v, H))).bind fun p => k p.1 p.2 := by
  cases i <;> simp only [runI]
  case ld => rw [ldI_nat]; conv => rhs; rw [ldI_nat]
             rw [Option.bind_assoc]; rfl
  case ldc => split
              · split
                · rw [getC_nat]; conv => rhs; rw [getC_nat]
                  rw [Option.bind_assoc]; rfl
                · rfl
              · rfl
  case st => rw [stI_nat]; conv => rhs; rw [stI_nat]
             rw [Option.bind_assoc]; rfl
  case bin => rw [binI_nat]; conv => rhs; rw [binI_nat]
              rw [Option.bind_assoc]; rfl
  case ia => rw [iaI_nat]; conv => rhs; rw [iaI_nat]
             rw [Option.bind_assoc]; rfl
  case iar => rw [iarI_nat]; conv => rhs; rw [iarI_nat]
              rw [Option.bind_assoc]; rfl
  case ixa => rw [ixaI_nat]; conv => rhs; rw [ixaI_nat]
              rw [Option.bind_assoc]; rfl
  case sl => rw [slI_nat]; conv => rhs; rw [slI_nat]
             rw [Option.bind_assoc]; rfl
  case fld => split
              · rw [getC_nat]; conv => rhs; rw [getC_nat]
                rw [Option.bind_assoc]; rfl
              · rfl
  case app => exact appI_nat ..
  case app0 => split
               · exact appI_nat ..
               · rfl
  case mk => exact mkI_nat ..
  case bsl => exact bslI_nat ..
  case call => exact callI_nat ..
  case callv => split
                · exact callI_nat ..
                · rfl
  case inv => split
              · split
                · exact callI_nat ..
                · rfl
              · rfl
  case pick => repeat' split
               all_goals first | rfl | (simp only [cond_bind]; rfl)
  all_goals (repeat' split)
  all_goals rfl

/-- One step of a region. -/
def stepG (T : Tab) (gi : GI) (τ : Env) (H : Heap) : Option (Env × Heap) := runG T gi τ H fun τ H => some (τ, H)

theorem runG_nat (T : Tab) (gi : GI) (τ : Env) (H : Heap) (k : Env → Heap → Option R) :
    runG T gi τ H k = (stepG T gi τ H).bind fun p => k p.1 p.2 := by
  unfold stepG runG
  split
  · rw [runI_nat]; conv => rhs; rw [runI_nat]
    rw [Option.bind_assoc]; rfl
  · split
    · split
      · simp only [cond_bind]
        congr 1
        rw [runI_nat]; conv => rhs; rw [runI_nat]
        rw [Option.bind_assoc]; rfl
      · simp only [cond_bind]
        congr 1
        rw [runI_nat]; conv => rhs; rw [runI_nat]
        rw [Option.bind_assoc]; rfl
    · rfl
    · rfl

theorem runR_cons (T : Tab) (gi : GI) (r : List GI) (τ : Env) (H : Heap) (k : Env → Heap → Option R) :
    runR T (gi :: r) τ H k = (stepG T gi τ H).bind fun p => runR T r p.1 p.2 k := by
  rw [runR, runG_nat]

end
end Go.Proofs.Ytjnkefbdpcbkmaa.Den
