/- The reading of code as functions on plain data: operations, regions, code, by continuations. -/
import Derived.Test.YtjnkefbdpcbkmaaD1
namespace Go.Proofs.Ytjnkefbdpcbkmaa.Den
open Go Go.RowKit
set_option linter.unusedVariables false

def Tm.get : List (Nat × SV) → Nat → SV
  | [], _ => .junk
  | (m, v) :: r, n => cond (Nat.beq m n) v (Tm.get r n)
abbrev Env := List (Nat × SV)

inductive S where
  | t (n : Nat)
  | c (v : SV)

def S.ev (τ : Env) : S → SV
  | .t n => Tm.get τ n
  | .c v => v

def enc : (K : Kd) → K.T → List SV
  | .int k, n => [.int k n]
  | .bool, b => [.bool b]
  | .unit, _ => []
  | .pair a b, x => enc a x.1 ++ enc b x.2
  | .list e, xs => [.es e xs]

def decRows {α : Type} (f : List SV → Option α) (sz : Nat) : Nat → List SV → Option (List α)
  | 0, cs => match cs with | [] => some [] | _ => none
  | n + 1, cs => match f (cs.take sz), decRows f sz n (cs.drop sz) with
    | some x, some r => some (x :: r)
    | _, _ => none

/-- Data out of its cells; slices of the frame's own blocks are read off the heap. -/
def decH (dp : Bool) (H : Heap) : (K : Kd) → List SV → Option K.T
  | .int k, cs => match cs with
    | [.int k' n] => if k' = k then some n else none
    | _ => none
  | .bool, cs => match cs with
    | [.bool b] => some b
    | _ => none
  | .unit, cs => match cs with
    | [] => some ()
    | _ => none
  | .pair a b, cs => match decH dp H a (cs.take a.sz), decH dp H b (cs.drop a.sz) with
    | some x, some y => some (x, y)
    | _, _ => none
  | .list e, cs => match cs with
    | [.es e' xs] => if h : e' = e then some (h ▸ xs) else none
    | [.nils] => some []
    | [.own β] => match H[β]? with
      | some (.arr e' xs _) => if h : e' = e then some (h ▸ xs) else none
      | some (.cells ds _ z) => if z = e.sz ∧ z ≠ 0 then decRows (decH dp (cond dp H []) e) e.sz (ds.length / e.sz) ds else none
      | _ => none
    | [.sub β off len] => match H[β]? with
      | some (.arr e' xs _) => if h : e' = e then some (((h ▸ xs : List e.T).drop off).take len) else none
      | _ => none
    | _ => none

mutual
def SV.refs : SV → List Nat
  | .ptr b _ | .aptr b _ _ | .own b | .sub b _ _ => [b]
  | .agg cs | .tup cs => SV.refsL cs
  | .fn _ a b => SV.refsL a ++ SV.refsL b
  | .iface _ v => v.refs
  | _ => []
def SV.refsL : List SV → List Nat
  | [] => []
  | c :: cs => c.refs ++ SV.refsL cs
end

mutual
def SV.ren (f : Nat → Option Nat) : SV → SV
  | .ptr b o => match f b with | some b' => .ptr b' o | none => .junk
  | .aptr b i j => match f b with | some b' => .aptr b' i j | none => .junk
  | .own b => match f b with | some b' => .own b' | none => .junk
  | .sub b o l => match f b with | some b' => .sub b' o l | none => .junk
  | .agg cs => .agg (SV.renL f cs)
  | .tup cs => .tup (SV.renL f cs)
  | .fn g a b => .fn g (SV.renL f a) (SV.renL f b)
  | .iface t v => .iface t (v.ren f)
  | .junk => .junk
  | .int k n => .int k n
  | .bool b => .bool b
  | .nilp => .nilp
  | .eptr K x j => .eptr K x j
  | .nils => .nils
  | .es K xs => .es K xs
  | .arrv K xs => .arrv K xs
  | .nilf => .nilf
  | .nili => .nili
def SV.renL (f : Nat → Option Nat) : List SV → List SV
  | [] => []
  | c :: cs => c.ren f :: SV.renL f cs
end

def Blk.ren (f : Nat → Option Nat) : Blk → Blk
  | .dead => .dead
  | .cells cs _ z => .cells (SV.renL f cs) 0 z
  | .arr K xs _ => .arr K xs 0

def Blk.refs : Blk → List Nat
  | .cells cs _ _ => SV.refsL cs
  | _ => []

def kill : List Nat → Heap → Heap
  | [], H => H
  | r :: rs, H => kill rs (H.set r .dead)

/-- The cells of a value, as they are stored. -/
def SV.cells? : SV → Option (List SV)
  | .agg cs => some cs
  | .tup _ | .arrv _ _ | .junk => none
  | v => some [v]

/-- One cell's value. -/
def SV.oneB : SV → Bool
  | .agg _ | .tup _ | .arrv _ _ | .junk => false
  | _ => true

def setCells (cs : List SV) (off : Nat) (vs : List SV) : List SV := cs.take off ++ (vs ++ cs.drop (off + vs.length))

abbrev LIM : Nat := 4294967296

/-- A callee as its callers see it. -/
structure TE where
  X : Type
  Y : Type
  mono : Bool
  view : List SV → Heap → Option X
  fn : X → Option Y
  put : X → Y → List SV → Heap → Option (SV × Heap)

inductive I where
  | mv (x : S)
  | pick (c a b : S)
  | alloc (zs : List SV) (t : TypeId)
  | allocA (K : Kd) (n : Nat) (t : TypeId)
  | box (t : TypeId) (x : S)
  | build (zs : List SV) (parts : List (Nat × Nat × S))
  | bsl (K : Option Kd) (frz : Bool) (sz len : Nat) (zs : List SV) (t : TypeId) (parts : List (Nat × S))
  | bse (K : Kd) (sz len : Nat) (zs : List SV) (parts : List (Nat × S))
  | ld (n : Nat) (ag : Bool) (x : S)
  | ldc (n : Nat) (ag : Bool) (s : Nat)
  | st (n : Nat) (x v : S)
  | nilck (x : S)
  | bin (op : BinOp) (x y : S)
  | beq (neg : Bool) (x y : S)
  | eqs (neg : Bool) (n : Nat) (x y : S)
  | not (x : S)
  | neg (x : S)
  | conv (k : IntKind) (x : S)
  | fa (off : Nat) (x : S)
  | fld (off n : Nat) (ag : Bool) (x : S)
  | ia (sz : Nat) (x i : S)
  | iar (len sz : Nat) (x i : S)
  | ixa (len sz : Nat) (ag : Bool) (x i : S)
  | sl (sz : Nat) (x : S) (lo hi mx : Option S)
  | ext (j : Nat) (x : S)
  | len (x : S)
  | app (K : Option Kd) (sz : Nat) (t : TypeId) (s x : S)
  | app0 (K : Option Kd) (sz : Nat) (t : TypeId) (s x : S)
  | mk (K : Option Kd) (zs : List SV) (t : TypeId) (n : S) (cap : Option S)
  | mn (x y : S)
  | mx (x y : S)
  | mkif (t : TypeId) (x : S)
  | tas (t : TypeId) (ok : Bool) (zs : SV) (x : S)
  | mkfn (f : Fn) (first cap : List S)
  | call (f : FuncId) (args : List S)
  | callv (x : S) (args : List S)
  | inv (x : S) (m : String) (args : List S)

structure GI where
  d : Option Nat
  g : Option (Nat × Bool)
  i : I

structure Norm where
  live : List Nat
  fix : List (Nat × Option Nat × Kd × Bool)

inductive C where
  | skip
  | reg (draw : Bool) (gs : List GI)
  | seq (a b : C)
  | cnd (s : S) (a b : C)
  | blk (id : Nat) (a : C)
  | loop (n : Norm) (a : C)
  | cut (n : Norm)
  | exit (id : Nat)
  | ret

inductive Ex where
  | normal
  | exit (id : Nat)
  | ret

/-- A table of callees; methods by type and name. -/
structure Tab where
  te : FuncId → Option TE
  meth : TypeId → String → Option FuncId

abbrev tst {R : Type} (b : Bool) (x : Option R) : Option R := cond b x none

section
variable {R : Type}

def getC (cs : List SV) (off n : Nat) (ag : Bool) (k : SV → Option R) : Option R :=
  match ag with
  | false => match cs[off]? with
    | some s => k s
    | none => none
  | true => if off + n ≤ cs.length then k (.agg ((cs.drop off).take n)) else none

def ldI (H : Heap) (n : Nat) (ag : Bool) (x : SV) (k : SV → Option R) : Option R :=
  match x with
  | .ptr β off => match H[β]? with
    | some (.cells cs _ _) => getC cs off n ag k
    | some (.arr K xs _) => match ag, off with
      | true, 0 => tst (Nat.beq (xs.length * K.sz) n) (k (.arrv K xs))
      | _, _ => none
    | _ => none
  | .aptr β i j => match H[β]? with
    | some (.arr K xs _) => tst (decide (i < xs.length)) (getC (enc K (xs.getD i K.dflt)) j n ag k)
    | _ => none
  | .eptr K x j => getC (enc K x) j n ag k
  | _ => none

def stI (H : Heap) (n : Nat) (x v : SV) (k : Heap → Option R) : Option R :=
  match v.cells? with
  | none => none
  | some vs => if vs.length = n then
      match x with
      | .ptr β off => match H[β]? with
        | some (.cells cs t z) => if off + n ≤ cs.length ∧ vs.all SV.oneB = true then k (H.set β (.cells (setCells cs off vs) t z)) else none
        | _ => none
      | .aptr β i j => match H[β]? with
        | some (.arr K xs t) => if (SV.refsL vs).contains β then none else
          match decH false H K (setCells (enc K (xs.getD i K.dflt)) j vs) with
          | some y => if j + n ≤ K.sz ∧ vs.all SV.oneB = true then tst (decide (i < xs.length)) (k ((kill (SV.refsL vs) H).set β (.arr K (xs.set i y) t))) else none
          | none => none
        | _ => none
      | _ => none
    else none

def iaI (H : Heap) (sz : Nat) (x i : SV) (k : SV → Option R) : Option R :=
  match i with
  | .int _ n => match x with
    | .es K xs => if K.sz = sz then tst (decide (0 ≤ n)) (tst (decide (n < (xs.length : Int))) (k (.eptr K (xs.getD n.toNat K.dflt) 0))) else none
    | .own β => match H[β]? with
      | some (.arr K xs _) => if K.sz = sz then tst (decide (0 ≤ n)) (tst (decide (n < (xs.length : Int))) (k (.aptr β n.toNat 0))) else none
      | some (.cells cs _ z) => if z = sz ∧ sz ≠ 0 then tst (decide (0 ≤ n)) (tst (decide (n < ((cs.length / sz : Nat) : Int))) (k (.ptr β (n.toNat * sz)))) else none
      | _ => none
    | .sub β off len => match H[β]? with
      | some (.arr K xs _) => if K.sz = sz then tst (decide (0 ≤ n)) (tst (decide (n < (len : Int))) (k (.aptr β (off + n.toNat) 0))) else none
      | _ => none
    | _ => none
  | _ => none

def iarI (H : Heap) (len sz : Nat) (x i : SV) (k : SV → Option R) : Option R :=
  match i with
  | .int _ n => match x with
    | .ptr β off => match H[β]? with
      | some (.arr K _ _) => match off with
        | 0 => if K.sz = sz then tst (decide (0 ≤ n)) (tst (decide (n < (len : Int))) (k (.aptr β n.toNat 0))) else none
        | _ => none
      | some (.cells _ _ _) => tst (decide (0 ≤ n)) (tst (decide (n < (len : Int))) (k (.ptr β (off + n.toNat * sz))))
      | _ => none
    | _ => none
  | _ => none

def ixaI (len sz : Nat) (ag : Bool) (x i : SV) (k : SV → Option R) : Option R :=
  match i with
  | .int _ n => match x with
    | .arrv K xs => if K.sz = sz then tst (decide (0 ≤ n)) (tst (decide (n < (len : Int))) (tst (decide (n < (xs.length : Int))) (getC (enc K (xs.getD n.toNat K.dflt)) 0 sz ag k))) else none
    | .agg cs => tst (decide (0 ≤ n)) (tst (decide (n < (len : Int))) (getC cs (n.toNat * sz) sz ag k))
    | _ => none
  | _ => none

def bound (x : Option SV) (d : Option Nat) (top : Nat) (k : Nat → Option R) : Option R :=
  match x with
  | none => match d with
    | some n => k n
    | none => none
  | some (.int _ n) => tst (decide (0 ≤ n)) (tst (decide (n ≤ (top : Int))) (k n.toNat))
  | _ => none

/-- How long a slice is. -/
def lenOf (H : Heap) (x : SV) : Option Nat :=
  match x with
  | .es _ xs => some xs.length
  | .nils => some 0
  | .sub β _ l => match H[β]? with
    | some (.arr _ _ _) => some l
    | some (.cells _ _ _) => some l
    | _ => none
  | .own β => match H[β]? with
    | some (.arr _ xs _) => some xs.length
    | some (.cells cs _ z) => if z = 0 then none else some (cs.length / z)
    | _ => none
  | _ => none

def szOK (H : Heap) (sz : Nat) (x : SV) : Bool :=
  match x with
  | .es K _ => Nat.beq K.sz sz
  | .nils => true
  | .own β | .sub β _ _ => match H[β]? with
    | some (.arr K _ _) => Nat.beq K.sz sz
    | some (.cells _ _ z) => Nat.beq z sz
    | _ => false
  | _ => false

def slI (H : Heap) (sz : Nat) (x : SV) (lo hi mx : Option SV) (k : SV → Option R) : Option R :=
  match mx with
  | none => cond (szOK H sz x) (
    match lenOf H x with
    | none => none
    | some l => bound hi (some l) l fun h => bound lo (some 0) h fun a =>
      match x with
      | .es K xs => k (.es K ((xs.take h).drop a))
      | .nils => k .nils
      | .own β => k (.sub β a (h - a))
      | .sub β off _ => k (.sub β (off + a) (h - a))
      | _ => none) none
  | some (.int _ 0) => match hi, lo with
    | some (.int _ 0), none => match x with
      | .es _ _ | .nils | .own _ | .sub _ _ _ => k .nils
      | _ => none
    | _, _ => none
  | _ => none

def cellsOfRow (H : Heap) (sz : Nat) (x : SV) : Option (List SV) :=
  match x with
  | .nils => some []
  | .own β => match H[β]? with
    | some (.cells cs _ z) => if z = sz then some cs else none
    | _ => none
  | _ => none

def appB (H : Heap) (K : Option Kd) (sz : Nat) (t : TypeId) (s x : SV) (k : SV → Heap → Option R) : Option R :=
  match K with
  | some K => match decH false H (.list K) [s], decH false H (.list K) [x] with
    | some base, some ys => if K.sz = sz then tst (decide (base.length + ys.length < LIM)) (k (.own H.length) (kill s.refs H ++ [.arr K (base ++ ys) t])) else none
    | _, _ => match cellsOfRow H sz s, cellsOfRow H sz x with
      | some cs, some ds => if cs.length + ds.length < 65536 ∧ sz ≠ 0 ∧ ds.all SV.oneB = true then k (.own H.length) (kill s.refs H ++ [.cells (cs ++ ds) t sz]) else none
      | _, _ => none
  | none => match cellsOfRow H sz s, cellsOfRow H sz x with
    | some cs, some ds => if cs.length + ds.length < 65536 ∧ sz ≠ 0 ∧ ds.all SV.oneB = true then k (.own H.length) (kill s.refs H ++ [.cells (cs ++ ds) t sz]) else none
    | _, _ => none

def SV.row : SV → Bool
  | .nils | .own _ | .sub _ _ _ => true
  | _ => false

def appI (H : Heap) (K : Option Kd) (sz : Nat) (t : TypeId) (s x : SV) (k : SV → Heap → Option R) : Option R :=
  cond s.row (appB H K sz t s x k) none

def mkI (H : Heap) (K : Option Kd) (zs : List SV) (t : TypeId) (n : SV) (cap : Option SV) (k : SV → Heap → Option R) : Option R :=
  match n with
  | .int _ m => match cap with
    | none => match K with
      | some K => tst (decide (0 ≤ m)) (tst (decide (m.toNat < LIM)) (k (.own H.length) (H ++ [.arr K (List.replicate m.toNat K.dflt) t])))
      | none => match m with
        | .ofNat m => if m < 1024 then k (.own H.length) (H ++ [.cells ((List.replicate m zs).flatten) t zs.length]) else none
        | _ => none
    | some (.int _ c) => match K with
      | some K => tst (decide (0 ≤ m)) (tst (decide (m ≤ c)) (tst (decide (c.toNat < LIM)) (k (.own H.length) (H ++ [.arr K (List.replicate m.toNat K.dflt) t]))))
      | none => match m, c with
        | .ofNat m, .ofNat c => if m ≤ c ∧ c < 1024 then k (.own H.length) (H ++ [.cells ((List.replicate m zs).flatten) t zs.length]) else none
        | _, _ => none
    | _ => none
  | _ => none

def fillP (τ : Env) : List (Nat × Nat × S) → List SV → Option (List SV)
  | [], cs => some cs
  | (off, n, x) :: r, cs => match (x.ev τ).cells? with
    | some vs => if vs.length = n ∧ off + n ≤ cs.length then fillP τ r (setCells cs off vs) else none
    | none => none

def bslI (τ : Env) (H : Heap) (K : Option Kd) (frz : Bool) (sz len : Nat) (zs : List SV) (t : TypeId) (parts : List (Nat × S)) (k : SV → Heap → Option R) : Option R :=
  match len, parts with
  | 0, [] => k .nils H
  | 0, _ => none
  | len + 1, parts => match fillP τ (parts.map fun p => (p.1 * sz, sz, p.2)) ((List.replicate (len + 1) zs).flatten) with
  | none => none
  | some cs => match K with
    | some K => match decRows (decH false (cond frz H []) K) K.sz (len + 1) cs with
      | some xs => if K.sz = sz then k (.own H.length) (kill (cond frz (SV.refsL cs) []) H ++ [.arr K xs t]) else none
      | none => k (.own H.length) (H ++ [.cells cs t sz])
    | none => k (.own H.length) (H ++ [.cells cs t sz])

def eqC : List SV → List SV → Option Bool
  | [], [] => some true
  | .int k a :: cs, .int k' b :: ds => if k = k' then (match eqC cs ds with | some r => some ((a == b) && r) | none => none) else none
  | _, _ => none

def binI (op : BinOp) (x y : SV) (k : SV → Option R) : Option R :=
  match x, y with
  | .int ka a, .int kb b =>
    match op with
    | .shl => tst (decide (0 ≤ b)) (k (.int ka (ka.wrap (a * 2 ^ (min b.toNat ka.bits)))))
    | .shr => tst (decide (0 ≤ b)) (k (.int ka (a.fdiv (2 ^ (min b.toNat ka.bits)))))
    | _ => if ka = kb then
        match op with
        | .add => k (.int ka (ka.wrap (a + b)))
        | .sub => k (.int ka (ka.wrap (a - b)))
        | .mul => k (.int ka (ka.wrap (a * b)))
        | .quo => tst (!(decide (b = 0))) (k (.int ka (ka.wrap (a.tdiv b))))
        | .rem => tst (!(decide (b = 0))) (k (.int ka (a.tmod b)))
        | .and => k (.int ka (ka.wrap (BitVec.ofInt ka.bits a &&& BitVec.ofInt ka.bits b).toNat))
        | .or => k (.int ka (ka.wrap (BitVec.ofInt ka.bits a ||| BitVec.ofInt ka.bits b).toNat))
        | .xor => k (.int ka (ka.wrap (BitVec.ofInt ka.bits a ^^^ BitVec.ofInt ka.bits b).toNat))
        | .eql => k (.bool (a == b))
        | .neq => k (.bool (a != b))
        | .lss => k (.bool (decide (a < b)))
        | .leq => k (.bool (decide (a ≤ b)))
        | .gtr => k (.bool (decide (a > b)))
        | .geq => k (.bool (decide (a ≥ b)))
        | _ => none
      else none
  | _, _ => none

def callI (T : Tab) (f : FuncId) (args : List SV) (H : Heap) (k : SV → Heap → Option R) : Option R :=
  match T.te f with
  | none => none
  | some te => match te.view args H with
    | none => none
    | some x => (te.fn x).bind fun y => match te.put x y args H with
      | some (v, H') => k v H'
      | none => none

def runI (T : Tab) (i : I) (τ : Env) (H : Heap) (k : SV → Heap → Option R) : Option R :=
  match i with
  | .mv x => k (x.ev τ) H
  | .pick c a b => match c.ev τ with
    | .bool c => match a.ev τ, b.ev τ with
      | .bool x, .bool y => k (.bool (cond c x y)) H
      | x, y => cond c (k x H) (k y H)
    | _ => none
  | .alloc zs t => k (.ptr H.length 0) (H ++ [.cells zs t zs.length])
  | .allocA K n t => k (.ptr H.length 0) (H ++ [.arr K (List.replicate n K.dflt) t])
  | .box t x => match x.ev τ with
    | .arrv K xs => k (.ptr H.length 0) (H ++ [.arr K xs t])
    | v => match v.cells? with
      | some cs => k (.ptr H.length 0) (H ++ [.cells cs t cs.length])
      | none => none
  | .build zs parts => match fillP τ parts zs with
    | some cs => k (.agg cs) H
    | none => none
  | .bsl K frz sz len zs t parts => bslI τ H K frz sz len zs t parts k
  | .bse K sz len zs parts => match fillP τ (parts.map fun p => (p.1 * sz, sz, p.2)) ((List.replicate len zs).flatten) with
    | some cs => match decRows (decH false [] K) K.sz len cs with
      | some xs => if K.sz = sz then k (.es K xs) H else none
      | none => none
    | none => none
  | .ld n ag x => ldI H n ag (x.ev τ) fun v => k v H
  | .ldc n ag s => match Tm.get τ s with
    | .ptr β off => match H[β]? with
      | some (.cells cs _ _) => getC cs off n ag fun v => k v H
      | _ => none
    | _ => none
  | .st n x v => stI H n (x.ev τ) (v.ev τ) fun H' => k .junk H'
  | .nilck x => match x.ev τ with
    | .ptr b o => k (.ptr b o) H
    | .aptr b i j => k (.aptr b i j) H
    | .eptr K v j => k (.eptr K v j) H
    | .fn (.func f) a b => k (.fn (.func f) a b) H
    | _ => none
  | .bin op x y => binI op (x.ev τ) (y.ev τ) fun v => k v H
  | .beq neg x y => match x.ev τ, y.ev τ with
    | .bool a, .bool b => k (.bool (cond neg (!(a == b)) (a == b))) H
    | _, _ => none
  | .eqs neg n x y => match x.ev τ, y.ev τ with
    | .agg cs, .agg ds => if cs.length = n ∧ ds.length = n then (match eqC cs ds with | some b => k (.bool (cond neg (!b) b)) H | none => none) else none
    | _, _ => none
  | .not x => match x.ev τ with
    | .bool b => k (.bool (!b)) H
    | _ => none
  | .neg x => match x.ev τ with
    | .int ik n => k (.int ik (ik.wrap (0 - n))) H
    | _ => none
  | .conv ik x => match x.ev τ with
    | .int _ n => k (.int ik (ik.wrap n)) H
    | _ => none
  | .fa off x => match x.ev τ with
    | .ptr b o => k (.ptr b (o + off)) H
    | .aptr b i j => k (.aptr b i (j + off)) H
    | .eptr K v j => k (.eptr K v (j + off)) H
    | _ => none
  | .fld off n ag x => match x.ev τ with
    | .agg cs => getC cs off n ag fun v => k v H
    | _ => none
  | .ia sz x i => iaI H sz (x.ev τ) (i.ev τ) fun v => k v H
  | .iar len sz x i => iarI H len sz (x.ev τ) (i.ev τ) fun v => k v H
  | .ixa len sz ag x i => ixaI len sz ag (x.ev τ) (i.ev τ) fun v => k v H
  | .sl sz x lo hi mx => slI H sz (x.ev τ) (lo.map (S.ev τ)) (hi.map (S.ev τ)) (mx.map (S.ev τ)) fun v => k v H
  | .ext j x => match x.ev τ with
    | .tup cs => match cs[j]? with
      | some v => k v H
      | none => none
    | _ => none
  | .len x => match lenOf H (x.ev τ) with
    | some n => k (.int .i64 (n : Int)) H
    | none => none
  | .app K sz t s x => appI H K sz t (s.ev τ) (x.ev τ) k
  | .app0 K sz t s x => match s.ev τ with
    | .nils => appI H K sz t .nils (x.ev τ) k
    | _ => none
  | .mk K zs t n cap => mkI H K zs t (n.ev τ) (cap.map (S.ev τ)) k
  | .mn x y => match x.ev τ, y.ev τ with
    | .int ik a, .int _ b => k (.int ik (if b < a then b else a)) H
    | _, _ => none
  | .mx x y => match x.ev τ, y.ev τ with
    | .int ik a, .int _ b => k (.int ik (if b > a then b else a)) H
    | _, _ => none
  | .mkif t x => k (.iface t (x.ev τ)) H
  | .tas t ok z x => match x.ev τ with
    | .iface t' v => match ok with
      | true => if t' = t then k (.tup [v, .bool true]) H else k (.tup [z, .bool false]) H
      | false => if t' = t then k v H else none
    | .nili => match ok with
      | true => k (.tup [z, .bool false]) H
      | false => none
    | _ => none
  | .mkfn f first cap => k (.fn f (first.map (S.ev τ)) (cap.map (S.ev τ))) H
  | .call f args => callI T f (args.map (S.ev τ)) H k
  | .callv x args => match x.ev τ with
    | .fn (.func f) first cap => callI T f (first ++ args.map (S.ev τ) ++ cap) H k
    | _ => none
  | .inv x m args => match x.ev τ with
    | .iface t v => match T.meth t m with
      | some f => callI T f (v :: args.map (S.ev τ)) H k
      | none => none
    | _ => none

def putD (τ : Env) (d : Option Nat) (v : SV) : Env :=
  match d with
  | some n => (n, v) :: τ
  | none => τ

def runG (T : Tab) (gi : GI) (τ : Env) (H : Heap) (k : Env → Heap → Option R) : Option R :=
  match gi.g with
  | none => runI T gi.i τ H fun v H' => k (putD τ gi.d v) H'
  | some (s, want) => match Tm.get τ s with
    | .bool b => match want with
      | true => cond b (runI T gi.i ((s, .bool true) :: τ) H fun v H' => k (putD ((s, .bool true) :: τ) gi.d v) H') (k (putD ((s, .bool false) :: τ) gi.d (.tup [])) H)
      | false => cond b (k (putD ((s, .bool true) :: τ) gi.d (.tup [])) H) (runI T gi.i ((s, .bool false) :: τ) H fun v H' => k (putD ((s, .bool false) :: τ) gi.d v) H')
    | .tup [] => k (putD τ gi.d (.tup [])) H
    | _ => none

def runR (T : Tab) : List GI → Env → Heap → (Env → Heap → Option R) → Option R
  | [], τ, H, k => k τ H
  | gi :: r, τ, H, k => runG T gi τ H fun τ H => runR T r τ H k

/-- Does an operation leave all that was there as it was? -/
def I.mono (T : Tab) : I → Bool
  | .st _ _ _ | .app _ _ _ _ _ => false
  | .bsl _ frz _ _ _ _ _ => !frz
  | .call f _ => match T.te f with
    | some te => te.mono
    | none => false
  | .callv _ _ | .inv _ _ _ => false
  | _ => true

def I.isCall : I → Bool
  | .call _ _ => true
  | _ => false
/-- The blocks that a call may change. -/
def I.touch (τ : Env) : I → List Nat
  | .call _ as => match as with
    | x :: _ => (x.ev τ).refs
    | [] => []
  | _ => []
def GI.touched (T : Tab) (gi : GI) (τ : Env) : List Nat := cond (gi.i.mono T) [] (gi.i.touch τ)
/-- The blocks of which an operation takes it that nothing changes them. -/
def GI.calmOf (gi : GI) (τ : Env) : List Nat := match gi.i with
  | .ldc _ _ s => (Tm.get τ s).refs
  | _ => []
def apart (tc : List Nat) (rd : List Nat) : Bool := rd.all fun β => !(tc.any (Nat.beq β))

/-- A region whose order is drawn: what is taken to be calm is touched by no call. -/
def runRD (T : Tab) : List GI → List Nat → List Nat → Env → Heap → (Env → Heap → Option R) → Option R
  | [], _, _, τ, H, k => k τ H
  | gi :: r, tc, rd, τ, H, k => cond (apart (gi.touched T τ ++ tc) (gi.calmOf τ ++ rd)) (runG T gi τ H fun τ' H' => runRD T r (gi.touched T τ ++ tc) (gi.calmOf τ ++ rd) τ' H' k) none

/-- The blocks that are led to, in the order in which they are met. -/
def gcOrder (n0 : Nat) (H : Heap) : Nat → List Nat → List Nat → List Nat
  | 0, _, acc => acc
  | _ + 1, [], acc => acc
  | n + 1, β :: r, acc => cond (Nat.blt β n0 || acc.contains β) (gcOrder n0 H n r acc)
      (gcOrder n0 H n (r ++ (match H[β]? with | some x => x.refs | none => [])) (acc ++ [β]))

def nodupB : List Nat → Bool
  | [] => true
  | x :: r => !(r.contains x) && nodupB r

def idxIn (β : Nat) : List Nat → Nat → Option Nat
  | [], _ => none
  | x :: r, n => cond (Nat.beq x β) (some n) (idxIn β r (n + 1))

def renF (n0 : Nat) (σ : List Nat) (β : Nat) : Option Nat := cond (Nat.blt β n0) (some β) (idxIn β σ n0)

def gc (n0 : Nat) (τ : Env) (H : Heap) : Option (Env × Heap) :=
  let σ := gcOrder n0 H 4096 (τ.flatMap (fun p => p.2.refs) ++ (H.take n0).flatMap Blk.refs) []
  cond (nodupB σ && (σ.all (fun β => Nat.ble n0 β && Nat.blt β H.length) && Nat.ble n0 H.length))
    (some (τ.map (fun p => (p.1, p.2.ren (renF n0 σ))), (H.take n0).map (Blk.ren (renF n0 σ)) ++ σ.map (fun β => match H[β]? with | some x => x.ren (renF n0 σ) | none => .dead)))
    none

/-- A slice brought into the form that a loop's head wants: a whole block of its own, or plain data. -/
def fixV (H : Heap) (K : Kd) (own : Bool) (v : SV) : Option (SV × Heap) :=
  match own with
  | true => match v with
    | .own β => some (.own β, H)
    | .nils => some (.own H.length, H ++ [.arr K [] 0])
    | .sub β off len => match H[β]? with
      | some (.arr K' xs t) => some (.own H.length, kill [β] H ++ [.arr K' ((xs.drop off).take len) t])
      | _ => none
    | _ => none
  | false => match decH false H (.list K) [v] with
    | some xs => some (.es K xs, kill v.refs H)
    | none => none

def fixAll : List (Nat × Option Nat × Kd × Bool) → Env → Heap → Option (Env × Heap)
  | [], τ, H => some (τ, H)
  | (s, none, K, o) :: r, τ, H => match fixV H K o (Tm.get τ s) with
    | some (v, H') => fixAll r ((s, v) :: τ) H'
    | none => none
  | (s, some c, K, o) :: r, τ, H => match Tm.get τ s with
    | .ptr β 0 => match H[β]? with
      | some (.cells cs t z) => match cs[c]? with
        | some u => match fixV H K o u with
          | some (v, H') => match H'[β]? with
            | some (.cells cs' t' z') => fixAll r τ (H'.set β (.cells (cs'.set c v) t' z'))
            | _ => none
          | none => none
        | none => none
      | _ => none
    | _ => none

def norm (n0 : Nat) (nm : Norm) (τ : Env) (H : Heap) : Option (Env × Heap) :=
  match fixAll nm.fix τ H with
  | some (τ1, H1) => gc n0 (nm.live.map fun s => (s, Tm.get τ1 s)) H1
  | none => none

/-- What comes behind: the second part of a sequence, the end of a block, the next round of a loop. -/
def seqK (f : Env → Heap → (Ex → Env → Heap → Option R) → Option R) (k : Ex → Env → Heap → Option R) : Ex → Env → Heap → Option R
  | .normal, τ, H => f τ H k
  | e, τ, H => k e τ H

def blkK (id : Nat) (k : Ex → Env → Heap → Option R) : Ex → Env → Heap → Option R
  | .exit i, τ, H => cond (Nat.beq i id) (k .normal τ H) (k (.exit i) τ H)
  | e, τ, H => k e τ H

def normK (n0 : Nat) (nm : Norm) (G : Env → Heap → Option R) (τ : Env) (H : Heap) : Option R :=
  match norm n0 nm τ H with
  | some (τ, H) => G τ H
  | none => none

def loopK (n0 : Nat) (nm : Norm) (G : Env → Heap → Option R) (k : Ex → Env → Heap → Option R) : Ex → Env → Heap → Option R
  | .normal, τ, H => normK n0 nm G τ H
  | e, τ, H => k e τ H

def loopN (body : Env → Heap → (Ex → Env → Heap → Option R) → Option R) (n0 : Nat) (nm : Norm) : Nat → Env → Heap → (Ex → Env → Heap → Option R) → Option R
  | 0, _, _, _ => none
  | n + 1, τ, H, k => body τ H (loopK n0 nm (fun τ H => loopN body n0 nm n τ H k) k)

def run (T : Tab) (n0 fuel : Nat) : C → Env → Heap → (Ex → Env → Heap → Option R) → Option R
  | .skip, τ, H, k => k .normal τ H
  | .reg d gs, τ, H, k => match d with
    | true => runRD T gs [] [] τ H (k .normal)
    | false => runR T gs τ H (k .normal)
  | .seq a b, τ, H, k => run T n0 fuel a τ H (seqK (run T n0 fuel b) k)
  | .cnd s a b, τ, H, k => match s.ev τ with
    | .bool c => cond c (run T n0 fuel a τ H k) (run T n0 fuel b τ H k)
    | _ => none
  | .blk id a, τ, H, k => run T n0 fuel a τ H (blkK id k)
  | .loop nm a, τ, H, k => normK n0 nm (fun τ H => loopN (run T n0 fuel a) n0 nm fuel τ H k) τ H
  | .cut nm, τ, H, k => normK n0 nm (k .normal) τ H
  | .exit id, τ, H, k => k (.exit id) τ H
  | .ret, τ, H, k => k .ret τ H
end

end Go.Proofs.Ytjnkefbdpcbkmaa.Den
