/- From the model's code to the light form. -/
import Derived.Test.YtjnkefbdpcbkmaaD3
namespace Go.Proofs.Ytjnkefbdpcbkmaa.Den
open Go Go.RowKit
set_option linter.unusedVariables false

def kdOf (P : Program) : Nat → TypeId → Option Kd
  | 0, _ => none
  | n + 1, t => match P.underlying t with
    | some (.int k) => some (.int k)
    | some .bool => some .bool
    | some (.slice e) => (kdOf P n e).map .list
    | some (.struct fs) => fs.toList.foldr (fun f r => match kdOf P n f.type, r with
      | some a, some b => some (.pair a b)
      | _, _ => none) (some .unit)
    | _ => none

mutual
def svOf : Nat → Value → Option SV
  | 0, _ => none
  | d + 1, v => match v with
    | .int k n => some (.int k n)
    | .bool b => some (.bool b)
    | .pointer none => some .nilp
    | .slice none 0 0 => some .nils
    | .nilFunc => some .nilf
    | .nilIface => some .nili
    | .agg cs => match svsOf d cs.toList with
      | some l => some (.agg l)
      | none => none
    | _ => none
def svsOf : Nat → List Value → Option (List SV)
  | 0, _ => none
  | d + 1, vs => match vs with
    | [] => some []
    | v :: r => match svOf d v, svsOf d r with
      | some x, some y => some (x :: y)
      | _, _ => none
end

def opL : Operand → Option S
  | .tmp t => some (.t t)
  | .const v => (svOf 1000 v).map .c
  | .func f => some (.c (.fn (.func f) [] []))
  | .global _ => none

def opsL : List Operand → Option (List S)
  | [] => some []
  | x :: r => match opL x, opsL r with
    | some a, some b => some (a :: b)
    | _, _ => none

/-- A type's size, zero cells and bytes. -/
def tinfo (P : Program) (t : TypeId) : Option (Nat × List SV × Nat) :=
  match P.info? t with
  | some i => match i.zero with
    | some z => match svsOf 1000 z.cells.toList with
      | some zs => if zs.length = i.size then some (i.size, zs, i.bytes) else none
      | none => none
    | none => none
  | none => none

def isAggL (P : Program) (t : TypeId) : Option Bool :=
  match P.underlying t with
  | some (.struct _) | some (.array _ _) => some true
  | some _ => some false
  | none => none

def partsL (P : Program) (place : Nat → Option (Nat × Nat)) : List (Nat × Operand) → Option (List (Nat × Nat × S))
  | [] => some []
  | (i, x) :: r => match place i, opL x, partsL P place r with
    | some (o, n), some a, some b => some ((o, n, a) :: b)
    | _, _, _ => none

def placeL (P : Program) (fs : Array Field) (i : Nat) : Option (Nat × Nat) :=
  match fs[i]? with
  | some f => match P.info? f.type with
    | some j => some (f.offset, j.size)
    | none => none
  | none => none

/-- Cells that are a kind's zero. -/
def isZero : Kd → List SV → Bool
  | .int k, cs => match cs with
    | [.int k' 0] => k == k'
    | _ => false
  | .bool, cs => match cs with
    | [.bool false] => true
    | _ => false
  | .unit, cs => match cs with
    | [] => true
    | _ => false
  | .pair a b, cs => isZero a (cs.take a.sz) && isZero b (cs.drop a.sz)
  | .list _, cs => match cs with
    | [.nils] => true
    | _ => false

/-- A struct whose '==' goes cell by cell. -/
def eqPlain (P : Program) (t : TypeId) : Option Nat :=
  match P.underlying t with
  | some (.struct fs) =>
    if P.stoodInHeld t = false ∧ P.eqGuardType P.depth t = false ∧ (fs.toList.all fun f => f.name != "_" && (match P.underlying f.type with | some (.int _) => true | _ => false)) = true ∧
      (fs.toList.zipIdx.all fun (f, j) => f.offset == j) = true then some fs.size else none
  | _ => none

/-- A slice literal; of constants. -/
def S.isC : S → Bool
  | .c _ => true
  | _ => false
def bslS (K : Option Kd) (frz : Bool) (sz len : Nat) (zs : List SV) (t : TypeId) (ps : List (Nat × S)) : I := match frz with
  | true => match K with
    | some k => cond (ps.all fun p => p.2.isC) (.bse k sz len zs ps) (.bsl (some k) true sz len zs t ps)
    | none => .bsl none true sz len zs t ps
  | false => .bsl K false sz len zs t ps

/-- A load; of cells that nothing changes. -/
def ldS (frz : Bool) (n : Nat) (ag : Bool) (a : S) : I := match frz with
  | true => match a with
    | .t s => .ldc n ag s
    | a => .ld n ag a
  | false => .ld n ag a

def lightOp (P : Program) (frz : Bool) (o : Oper) : Option I :=
  match o.op with
  | .move x | .assign x => (opL x).map .mv
  | .pick c a b => match opL c, opL a, opL b with
    | some c, some a, some b => some (.pick c a b)
    | _, _, _ => none
  | .alloc e => match P.underlying e with
    | some (.array n el) => if 16 ≤ n then (match kdOf P 9 el, tinfo P e with
        | some K, some (sz, zs, _) => if sz = n ∧ K = .int .i64 ∧ (zs.all (isZero K <| [·])) = true then some (.allocA K n e) else none
        | _, _ => none) else (match tinfo P e with
        | some (_, zs, _) => some (.alloc zs e)
        | none => none)
    | some _ => match tinfo P e with
      | some (_, zs, _) => some (.alloc zs e)
      | none => none
    | none => none
  | .box e x => (opL x).map (.box e)
  | .build t parts => match P.underlying t with
    | some (.struct fs) => match tinfo P t, partsL P (placeL P fs) parts.toList with
      | some (_, zs, _), some ps => if (fs.toList.all fun f => (P.info? f.type).isSome) = true then some (.build zs ps) else none
      | _, _ => none
    | some (.array _ el) => match tinfo P t, P.info? el with
      | some (_, zs, _), some j => (partsL P (fun i => some (i * j.size, j.size)) parts.toList).map (.build zs)
      | _, _ => none
    | _ => none
  | .buildSlice t len parts => match P.underlying t with
    | some (.slice e) => match tinfo P e, opsL (parts.toList.map (·.2)) with
      | some (sz, zs, _), some xs => if len * sz ≤ 16777216 ∧ sz ≠ 0 ∧ len < 65536 then some (bslS (kdOf P 9 e) frz sz len zs e ((parts.toList.map (·.1)).zip xs)) else none
      | _, _ => none
    | _ => none
  | .load t a => match P.info? t, isAggL P t, opL a with
    | some i, some ag, some a => if ag = false → i.size = 1 then some (ldS frz i.size ag a) else none
    | _, _, _ => none
  | .store t a v => match P.info? t, opL a, opL v with
    | some i, some a, some v => some (.st i.size a v)
    | _, _, _ => none
  | .nilCheck x => (opL x).map .nilck
  | .binOp op t x y _ => match P.underlying t, opL x, opL y with
    | some (.int _), some x, some y => some (.bin op x y)
    | some .bool, some x, some y => match op with
      | .eql => some (.beq false x y)
      | .neq => some (.beq true x y)
      | _ => none
    | some (.struct _), some x, some y => match op, eqPlain P t with
      | .eql, some n => some (.eqs false n x y)
      | .neq, some n => some (.eqs true n x y)
      | _, _ => none
    | _, _, _ => none
  | .unOp op _ x => match op, opL x with
    | .not, some x => some (.not x)
    | .neg, some x => some (.neg x)
    | _, _ => none
  | .convert src dst x => match P.underlying src, P.underlying dst, opL x with
    | some (.int _), some (.int k), some x => some (.conv k x)
    | _, _, _ => none
  | .fieldAddr s x f => match P.underlying s, opL x with
    | some (.struct fs), some x => match fs[f]? with
      | some fd => match P.info? fd.type with
        | some i => if i.size ≠ 0 then some (.fa fd.offset x) else none
        | none => none
      | none => none
    | _, _ => none
  | .field s x f => match P.underlying s, opL x with
    | some (.struct fs), some x => match fs[f]? with
      | some fd => match P.info? fd.type, isAggL P fd.type with
        | some j, some ag => if ag = false → j.size = 1 then some (.fld fd.offset j.size ag x) else none
        | _, _ => none
      | none => none
    | _, _ => none
  | .indexAddr t x i => match P.underlying t, opL x, opL i with
    | some (.slice e), some x, some i => match P.info? e with
      | some j => some (.ia j.size x i)
      | none => none
    | some (.array n e), some x, some i => match P.info? e with
      | some j => some (.iar n j.size x i)
      | none => none
    | _, _, _ => none
  | .index t x i => match P.underlying t, opL x, opL i with
    | some (.array n e), some x, some i => match P.info? e, isAggL P e with
      | some j, some ag => if ag = false → j.size = 1 then some (.ixa n j.size ag x i) else none
      | _, _ => none
    | _, _, _ => none
  | .slice t x lo hi mx => match P.underlying t, opL x with
    | some (.slice e), some x => match P.info? e with
      | none => none
      | some j => match lo, hi, mx with
      | none, none, none => some (.sl j.size x none none none)
      | some lo, none, none => (opL lo).map fun lo => .sl j.size x (some lo) none none
      | none, some hi, none => (opL hi).map fun hi => .sl j.size x none (some hi) none
      | some lo, some hi, none => match opL lo, opL hi with
        | some lo, some hi => some (.sl j.size x (some lo) (some hi) none)
        | _, _ => none
      | none, some hi, some mx => match opL hi, opL mx with
        | some hi, some mx => some (.sl j.size x none (some hi) (some mx))
        | _, _ => none
      | _, _, _ => none
    | _, _ => none
  | .extract t j => (opL t).map (.ext j)
  | .makeSlice t l c => match P.underlying t, opL l, opL c with
    | some (.slice e), some l', some c' => match tinfo P e with
      | some (sz, zs, by_) => if by_ ≤ 32768 ∧ sz ≠ 0 then
          (match cond frz none (kdOf P 9 e) with
          | some K => if K.sz = sz ∧ isZero K zs = true then some (.mk (some K) zs e l' (some c')) else none
          | none => some (.mk none zs e l' (some c'))) else none
      | none => none
    | _, _, _ => none
  | .makeInterface t x => match P.underlying t with
    | some (.interface _) => none
    | some _ => (opL x).map (.mkif t)
    | none => none
  | .typeAssert x _ t ok => match P.underlying t, opL x with
    | some (.interface _), _ => none
    | some _, some x => match P.info? t with
      | some i => match i.zero with
        | some z => (svOf 1000 z).map fun z => .tas t ok z x
        | none => none
      | none => none
    | _, _ => none
  | .makeFunc fn first cap => match opsL first.toList, opsL cap.toList with
    | some a, some b => some (.mkfn fn a b)
    | _, _ => none
  | .call c => match opsL c.args.toList with
    | none => none
    | some as => match c.callee with
      | .builtin .len => match c.argTypes.toList, as with
        | [t], [x] => match P.underlying t with
          | some (.slice _) => some (.len x)
          | _ => none
        | _, _ => none
      | .builtin .append => match c.argTypes.toList, as with
        | [t, t'], [s, x] => match P.underlying t, t == t' with
          | some (.slice e), true => match tinfo P e with
            | some (sz, _, by_) => if by_ ≤ 32768 then some (cond frz (.app0 (kdOf P 9 e) sz e s x) (.app (kdOf P 9 e) sz e s x)) else none
            | none => none
          | _, _ => none
        | _, _ => none
      | .builtin .min => match as with
        | [x, y] => some (.mn x y)
        | _ => none
      | .builtin .max => match as with
        | [x, y] => some (.mx x y)
        | _ => none
      | .value (.func f) => match P.funcs[f]? with
        | some fn => if fn.name ≠ "runtime.NumGoroutine" ∧ fn.body.isSome = true then some (.call f as) else none
        | none => none
      | .value (.tmp t) => some (.callv (.t t) as)
      | .invoke (.tmp t) m => some (.inv (.t t) m as)
      | _ => none
  | _ => none

def guardL (ops : Array Oper) : Option (Nat × Bool) → Option (Option (Nat × Bool))
  | none => some none
  | some (j, want) => match (ops[j]?).bind (·.dst) with
    | some d => some (some (d, want))
    | none => none

def dstOK (N : Nat) : Option Nat → Bool
  | some d => decide (d < N)
  | none => true

def lightOps (P : Program) (frz : List Nat) (N : Nat) (ops : Array Oper) : List Oper → Option (List GI)
  | [] => some []
  | o :: r => match lightOp P (match o.dst with | some d => frz.contains d | none => false) o, guardL ops o.guard, lightOps P frz N ops r with
    | some i, some g, some gs => if dstOK N o.dst = true then some ({ d := o.dst, g, i } :: gs) else none
    | _, _, _ => none

/-- Code, with what the loops' heads keep ('ann', by the loops' numbers, in the text's order). -/
def cutOf (id : Nat) : List (Nat × Norm) → Option Norm
  | [] => none
  | (j, nm) :: r => cond (Nat.beq j id) (some nm) (cutOf id r)

def lightC (P : Program) (frz : List Nat) (N : Nat) (ann : List Norm) (cuts : List (Nat × Norm)) : Nat → Code → Option (C × Nat)
  | i, .skip => some (.skip, i)
  | i, .region id ops draw => match lightOps P frz N ops ops.toList with
    | some gs => match cutOf id cuts with
      | none => match cutOf (id + 1000000) cuts with
        | none => some (.reg draw gs, i)
        | some nm => some (.seq (.cut nm) (.reg draw gs), i)
      | some nm => some (.seq (.reg draw gs) (.cut nm), i)
    | none => none
  | i, .seq a b => match lightC P frz N ann cuts i a with
    | some (x, j) => match lightC P frz N ann cuts j b with
      | some (y, k) => some (.seq x y, k)
      | none => none
    | none => none
  | i, .cond s a b => match opL s, lightC P frz N ann cuts i a with
    | some s, some (x, j) => match lightC P frz N ann cuts j b with
      | some (y, k) => some (.cnd s x y, k)
      | none => none
    | _, _ => none
  | i, .block id a => match lightC P frz N ann cuts i a with
    | some (x, j) => some (.blk id x, j)
    | none => none
  | i, .loop a => match ann[i]?, lightC P frz N ann cuts (i + 1) a with
    | some nm, some (x, j) => some (.loop nm x, j)
    | _, _ => none
  | i, .exit id => some (.exit id, i)
  | i, .ret => some (.ret, i)
  | _, _ => none

end Go.Proofs.Ytjnkefbdpcbkmaa.Den
