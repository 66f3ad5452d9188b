/-
  No cell of these rows narrows 'for every input' (looked for: loops, veiled, ifaces, maps, wideKeys, modest, calm, conditions, laid).
  DERIVED. THE GIVEN ROWS OF THIS SEAT. 7 by the template 'for every input the law returns true; each argument reads behind the call as it read before'; 0 by the template 'total and deterministic' (their statements: YtapicafncjajnaaTotals.lean).
  GIVEN WITH THE SEED: the statements are not yours to turn. If you find one false, say at which input.
  Laid BY PROGRAM, IN A SANDBOX (cutbox-rows.mjs): the forced cells as the released guide's own fill.sh prints them over the translation 8b048ed6b4621667… (all of the seat's roots in one cut). By AI agents, Wed Nov 11 2026. No macro, syntax, notation, axiom, sorry.
-/
import Derived.Test.YtapicafncjajnaaChecked
import GoSem.Claim
import GoSem.ClaimJoined
import GoSem.ClaimMapViews
import Derived.JoinedTies
import Derived.KernelRfl
namespace Go.Proofs.Ytapicafncjajnaa
/- THE CELL 'sum', in the pinned program and in every row, IS THE sha256 OF THE DUMP (.gsa) THAT YtapicafncjajnaaProg.lean LOADS. Nothing in Lean hashes anything: it is a label: what it is worth is what the hold of that sum in a sandbox is worth. -/
noncomputable def Try.pinned : Pinned := { name := "ytapicafncjajnaa", sum := "8b048ed6b4621667b7bba409738773c252b433b82ae22f535224dadc9765329b", checked := Try.checked }
namespace Rows
def none {H : Type} : Left H := { results := [], args := [] }

/-- 'laws.FnRankMore': WHATEVER THE INPUT: true; the input reads as it did. -/
def fnRankMoreSpec : ChangeSpec := { name := "fnRankMore", fn := fun _ => fun
  | [d1, d2] => { results := [.lit (.bool true)], args := [d1, d2] }
  | _ => none }
def fnRankMoreRow : OpenClaim := { program := "ytapicafncjajnaa", sum := "8b048ed6b4621667b7bba409738773c252b433b82ae22f535224dadc9765329b", func := "loop.example/inkling/laws.FnRankMore", spec := "fnRankMore", apart := false }
def FnRankMoreSaid : Prop := fnRankMoreRow.holds Try.pinned (OpenSpec.ofChange fnRankMoreSpec)

/-- ITS FALSE NEIGHBOUR: 'it returns false'. Refute it at one input. -/
def fnRankMoreWrong : ChangeSpec := { name := "fnRankMore", fn := fun _ => fun
  | [d1, d2] => { results := [.lit (.bool false)], args := [d1, d2] }
  | _ => none }
def FnRankMoreWrongFalsely : Prop := fnRankMoreRow.holds Try.pinned (OpenSpec.ofChange fnRankMoreWrong)

/-- 'laws.FnRankJoin': WHATEVER THE INPUT: true; the input reads as it did. -/
def fnRankJoinSpec : ChangeSpec := { name := "fnRankJoin", fn := fun _ => fun
  | [d] => { results := [.lit (.bool true)], args := [d] }
  | _ => none }
def fnRankJoinRow : OpenClaim := { program := "ytapicafncjajnaa", sum := "8b048ed6b4621667b7bba409738773c252b433b82ae22f535224dadc9765329b", func := "loop.example/inkling/laws.FnRankJoin", spec := "fnRankJoin", apart := false }
def FnRankJoinSaid : Prop := fnRankJoinRow.holds Try.pinned (OpenSpec.ofChange fnRankJoinSpec)

/-- ITS FALSE NEIGHBOUR: 'it returns false'. Refute it at one input. -/
def fnRankJoinWrong : ChangeSpec := { name := "fnRankJoin", fn := fun _ => fun
  | [d] => { results := [.lit (.bool false)], args := [d] }
  | _ => none }
def FnRankJoinWrongFalsely : Prop := fnRankJoinRow.holds Try.pinned (OpenSpec.ofChange fnRankJoinWrong)

/-- 'laws.FnExactRankJoin': WHATEVER THE INPUT: true; the input reads as it did. -/
def fnExactRankJoinSpec : ChangeSpec := { name := "fnExactRankJoin", fn := fun _ => fun
  | [d1, d2] => { results := [.lit (.bool true)], args := [d1, d2] }
  | _ => none }
def fnExactRankJoinRow : OpenClaim := { program := "ytapicafncjajnaa", sum := "8b048ed6b4621667b7bba409738773c252b433b82ae22f535224dadc9765329b", func := "loop.example/inkling/laws.FnExactRankJoin", spec := "fnExactRankJoin", apart := false }
def FnExactRankJoinSaid : Prop := fnExactRankJoinRow.holds Try.pinned (OpenSpec.ofChange fnExactRankJoinSpec)

/-- ITS FALSE NEIGHBOUR: 'it returns false'. Refute it at one input. -/
def fnExactRankJoinWrong : ChangeSpec := { name := "fnExactRankJoin", fn := fun _ => fun
  | [d1, d2] => { results := [.lit (.bool false)], args := [d1, d2] }
  | _ => none }
def FnExactRankJoinWrongFalsely : Prop := fnExactRankJoinRow.holds Try.pinned (OpenSpec.ofChange fnExactRankJoinWrong)

/-- 'laws.FnRankAt': WHATEVER THE INPUT: true; the input reads as it did. -/
def fnRankAtSpec : ChangeSpec := { name := "fnRankAt", fn := fun _ => fun
  | [d] => { results := [.lit (.bool true)], args := [d] }
  | _ => none }
def fnRankAtRow : OpenClaim := { program := "ytapicafncjajnaa", sum := "8b048ed6b4621667b7bba409738773c252b433b82ae22f535224dadc9765329b", func := "loop.example/inkling/laws.FnRankAt", spec := "fnRankAt", apart := false }
def FnRankAtSaid : Prop := fnRankAtRow.holds Try.pinned (OpenSpec.ofChange fnRankAtSpec)

/-- ITS FALSE NEIGHBOUR: 'it returns false'. Refute it at one input. -/
def fnRankAtWrong : ChangeSpec := { name := "fnRankAt", fn := fun _ => fun
  | [d] => { results := [.lit (.bool false)], args := [d] }
  | _ => none }
def FnRankAtWrongFalsely : Prop := fnRankAtRow.holds Try.pinned (OpenSpec.ofChange fnRankAtWrong)

/-- 'laws.FnExactRankAdd': WHATEVER THE INPUT: true; the input reads as it did. -/
def fnExactRankAddSpec : ChangeSpec := { name := "fnExactRankAdd", fn := fun _ => fun
  | [d1, d2] => { results := [.lit (.bool true)], args := [d1, d2] }
  | _ => none }
def fnExactRankAddRow : OpenClaim := { program := "ytapicafncjajnaa", sum := "8b048ed6b4621667b7bba409738773c252b433b82ae22f535224dadc9765329b", func := "loop.example/inkling/laws.FnExactRankAdd", spec := "fnExactRankAdd", apart := false }
def FnExactRankAddSaid : Prop := fnExactRankAddRow.holds Try.pinned (OpenSpec.ofChange fnExactRankAddSpec)

/-- ITS FALSE NEIGHBOUR: 'it returns false'. Refute it at one input. -/
def fnExactRankAddWrong : ChangeSpec := { name := "fnExactRankAdd", fn := fun _ => fun
  | [d1, d2] => { results := [.lit (.bool false)], args := [d1, d2] }
  | _ => none }
def FnExactRankAddWrongFalsely : Prop := fnExactRankAddRow.holds Try.pinned (OpenSpec.ofChange fnExactRankAddWrong)

/-- 'laws.FnRankAdd': WHATEVER THE INPUT: true; the input reads as it did. -/
def fnRankAddSpec : ChangeSpec := { name := "fnRankAdd", fn := fun _ => fun
  | [d] => { results := [.lit (.bool true)], args := [d] }
  | _ => none }
def fnRankAddRow : OpenClaim := { program := "ytapicafncjajnaa", sum := "8b048ed6b4621667b7bba409738773c252b433b82ae22f535224dadc9765329b", func := "loop.example/inkling/laws.FnRankAdd", spec := "fnRankAdd", apart := false }
def FnRankAddSaid : Prop := fnRankAddRow.holds Try.pinned (OpenSpec.ofChange fnRankAddSpec)

/-- ITS FALSE NEIGHBOUR: 'it returns false'. Refute it at one input. -/
def fnRankAddWrong : ChangeSpec := { name := "fnRankAdd", fn := fun _ => fun
  | [d] => { results := [.lit (.bool false)], args := [d] }
  | _ => none }
def FnRankAddWrongFalsely : Prop := fnRankAddRow.holds Try.pinned (OpenSpec.ofChange fnRankAddWrong)

/-- 'laws.FnRankJoinBelow': WHATEVER THE INPUT: true; the input reads as it did. -/
def fnRankJoinBelowSpec : ChangeSpec := { name := "fnRankJoinBelow", fn := fun _ => fun
  | [d] => { results := [.lit (.bool true)], args := [d] }
  | _ => none }
def fnRankJoinBelowRow : OpenClaim := { program := "ytapicafncjajnaa", sum := "8b048ed6b4621667b7bba409738773c252b433b82ae22f535224dadc9765329b", func := "loop.example/inkling/laws.FnRankJoinBelow", spec := "fnRankJoinBelow", apart := false }
def FnRankJoinBelowSaid : Prop := fnRankJoinBelowRow.holds Try.pinned (OpenSpec.ofChange fnRankJoinBelowSpec)

/-- ITS FALSE NEIGHBOUR: 'it returns false'. Refute it at one input. -/
def fnRankJoinBelowWrong : ChangeSpec := { name := "fnRankJoinBelow", fn := fun _ => fun
  | [d] => { results := [.lit (.bool false)], args := [d] }
  | _ => none }
def FnRankJoinBelowWrongFalsely : Prop := fnRankJoinBelowRow.holds Try.pinned (OpenSpec.ofChange fnRankJoinBelowWrong)

/- THE SECOND FORM. 'bulk': how many values and letters a reading holds, each counted each time it is reached (what is shared counts as often as it is met; a slice's spare places count too). A statement '..UptoSaid' is the law's where the arguments, and the package variables that the reading takes, are together of bulk at most 1048576: NARROWER than '..Said'. Prove '..Said' where nothing that the law and all that it calls make is longer than what came in: it says more and counts as full. Else prove '..UptoSaid'. A law counts once. -/
mutual
def uptoBulk {H : Type} : DataW H → Nat
  | .lit (.string bytes) => bytes.length + 1
  | .lit _ => 1
  | .nil => 1
  | .ptr d => uptoBulk d + 1
  | .slice elems spare => uptoBulkAll elems + uptoBulkAll spare + 1
  | .agg parts => uptoBulkAll parts + 1
  | .iface _ d => uptoBulk d + 1
  | .map entries => uptoBulkEntries entries + 1
  | .held _ => 1
def uptoBulkAll {H : Type} : List (DataW H) → Nat
  | [] => 0
  | d :: r => uptoBulk d + uptoBulkAll r
def uptoBulkEntries {H : Type} : List (Lit × DataW H) → Nat
  | [] => 0
  | x :: r => uptoBulkEntry x + uptoBulkEntries r
def uptoBulkEntry {H : Type} : Lit × DataW H → Nat
  | (.string bytes, d) => bytes.length + uptoBulk d + 1
  | (_, d) => uptoBulk d + 1
 end
def uptoSmall : (H : Type) → List (DataW H) → Bool := fun _ ds => decide (uptoBulkAll ds ≤ 1048576)
def OpenSpec.upto (s : _root_.Go.ChangeSpec) : _root_.Go.OpenSpec := { _root_.Go.OpenSpec.ofChange s with cond := some uptoSmall }

/-- 'laws.FnRankMore', WHERE WHAT IT READS IS OF BULK AT MOST 1048576: true; the input reads as it did. -/
def fnRankMoreUptoRow : OpenClaim := { program := "ytapicafncjajnaa", sum := "8b048ed6b4621667b7bba409738773c252b433b82ae22f535224dadc9765329b", func := "loop.example/inkling/laws.FnRankMore", spec := "fnRankMore", apart := false, narrowed := true }
def FnRankMoreUptoSaid : Prop := fnRankMoreUptoRow.holds Try.pinned (OpenSpec.upto fnRankMoreSpec)

/-- 'laws.FnRankJoin', WHERE WHAT IT READS IS OF BULK AT MOST 1048576: true; the input reads as it did. -/
def fnRankJoinUptoRow : OpenClaim := { program := "ytapicafncjajnaa", sum := "8b048ed6b4621667b7bba409738773c252b433b82ae22f535224dadc9765329b", func := "loop.example/inkling/laws.FnRankJoin", spec := "fnRankJoin", apart := false, narrowed := true }
def FnRankJoinUptoSaid : Prop := fnRankJoinUptoRow.holds Try.pinned (OpenSpec.upto fnRankJoinSpec)

/-- 'laws.FnExactRankJoin', WHERE WHAT IT READS IS OF BULK AT MOST 1048576: true; the input reads as it did. -/
def fnExactRankJoinUptoRow : OpenClaim := { program := "ytapicafncjajnaa", sum := "8b048ed6b4621667b7bba409738773c252b433b82ae22f535224dadc9765329b", func := "loop.example/inkling/laws.FnExactRankJoin", spec := "fnExactRankJoin", apart := false, narrowed := true }
def FnExactRankJoinUptoSaid : Prop := fnExactRankJoinUptoRow.holds Try.pinned (OpenSpec.upto fnExactRankJoinSpec)

/-- 'laws.FnRankAt', WHERE WHAT IT READS IS OF BULK AT MOST 1048576: true; the input reads as it did. -/
def fnRankAtUptoRow : OpenClaim := { program := "ytapicafncjajnaa", sum := "8b048ed6b4621667b7bba409738773c252b433b82ae22f535224dadc9765329b", func := "loop.example/inkling/laws.FnRankAt", spec := "fnRankAt", apart := false, narrowed := true }
def FnRankAtUptoSaid : Prop := fnRankAtUptoRow.holds Try.pinned (OpenSpec.upto fnRankAtSpec)

/-- 'laws.FnExactRankAdd', WHERE WHAT IT READS IS OF BULK AT MOST 1048576: true; the input reads as it did. -/
def fnExactRankAddUptoRow : OpenClaim := { program := "ytapicafncjajnaa", sum := "8b048ed6b4621667b7bba409738773c252b433b82ae22f535224dadc9765329b", func := "loop.example/inkling/laws.FnExactRankAdd", spec := "fnExactRankAdd", apart := false, narrowed := true }
def FnExactRankAddUptoSaid : Prop := fnExactRankAddUptoRow.holds Try.pinned (OpenSpec.upto fnExactRankAddSpec)

/-- 'laws.FnRankAdd', WHERE WHAT IT READS IS OF BULK AT MOST 1048576: true; the input reads as it did. -/
def fnRankAddUptoRow : OpenClaim := { program := "ytapicafncjajnaa", sum := "8b048ed6b4621667b7bba409738773c252b433b82ae22f535224dadc9765329b", func := "loop.example/inkling/laws.FnRankAdd", spec := "fnRankAdd", apart := false, narrowed := true }
def FnRankAddUptoSaid : Prop := fnRankAddUptoRow.holds Try.pinned (OpenSpec.upto fnRankAddSpec)

/-- 'laws.FnRankJoinBelow', WHERE WHAT IT READS IS OF BULK AT MOST 1048576: true; the input reads as it did. -/
def fnRankJoinBelowUptoRow : OpenClaim := { program := "ytapicafncjajnaa", sum := "8b048ed6b4621667b7bba409738773c252b433b82ae22f535224dadc9765329b", func := "loop.example/inkling/laws.FnRankJoinBelow", spec := "fnRankJoinBelow", apart := false, narrowed := true }
def FnRankJoinBelowUptoSaid : Prop := fnRankJoinBelowUptoRow.holds Try.pinned (OpenSpec.upto fnRankJoinBelowSpec)

end Rows
end Go.Proofs.Ytapicafncjajnaa
