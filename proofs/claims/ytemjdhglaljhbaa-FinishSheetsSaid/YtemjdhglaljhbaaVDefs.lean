/- The evaluator: what a loaded function computes, over virtual blocks; definitions alone. -/
import Derived.Calls
import Derived.Orders
namespace Go.V

/-- What a cell holds. A pointer: a virtual block and a place; a slice: a virtual block, a place, a length; em: a slice of length 0 that is not nil, wherever it lies. -/
inductive C where
  | int (k : IntKind) (n : Int)
  | bool (b : Bool)
  | str (s : ByteArray)
  | ptr (p : Option (Nat × Nat))
  | sl (p : Option (Nat × Nat)) (n : Nat)
  | em
  | fn (f : Nat) (caps : List (Nat × Nat))
  | yl (i : Nat)
  | nfn
  | nif
  deriving Inhabited
/-- A value: one cell, or an aggregate. -/
inductive X where
  | c (x : C)
  | a (cs : List C)
  deriving Inhabited
/-- What a temporary holds. -/
inductive Va where
  | u
  | n
  | x (v : X)
  | t (vs : List X)
  /-- a value as it is: what the evaluator has no word for -/
  | w (v : Value)
  deriving Inhabited
/-- A virtual block: its cells; the size of an element, if it is a row that an append may use; may it be written. -/
structure Blk where
  cs : List C
  row : Option Nat
  wr : Bool
structure St where
  n : Nat
  h : Nat → Option Blk
  lo : Nat
def St.set (S : St) (i : Nat) (b : Blk) : St := { S with h := fun j => if j = i then some b else S.h j, lo := min S.lo i }
def St.kill (S : St) (i : Nat) : St := { S with h := fun j => if j = i then none else S.h j, lo := min S.lo i }
def St.new (S : St) (b : Blk) : St := { S with n := S.n + 1, h := fun j => if j = S.n then some b else S.h j }

/-- What an operation does to memory. -/
inductive Eff where
  | pure
  | new
  | load (i : Nat)
  | store (i : Nat)
  | app (dst src : Option Nat)
  | call (pure : Bool)
def Eff.bad : Eff → Eff → Bool
  | .store i, .store j => i == j
  | .store i, .load j => i == j
  | .load i, .store j => i == j
  | .store i, .app d r => d == some i || r == some i
  | .app d r, .store i => d == some i || r == some i
  | .load i, .app d _ => d == some i
  | .app d _, .load i => d == some i
  | .app d r, .app d' r' => (d.isSome && (d == d' || d == r')) || (d'.isSome && d' == r)
  | .store _, .call _ => true
  | .call _, .store _ => true
  | .app _ _, .call _ => true
  | .call _, .app _ _ => true
  | .call _, .call _ => true
  | .call p, .load _ => !p
  | .load _, .call p => !p
  | .new, .call p => !p
  | _, _ => false

/-! ### Constants and types -/
def C.ofValue : Value → Option C
  | .int k n => some (.int k n)
  | .bool b => some (.bool b)
  | .string s => some (.str s)
  | .pointer none => some (.ptr none)
  | .slice none 0 0 => some (.sl none 0)
  | .nilFunc => some .nfn
  | .nilIface => some .nif
  | _ => none
def X.ofValue : Value → Option X
  | .agg cs => (cs.toList.mapM C.ofValue).map .a
  | v => (C.ofValue v).map .c
def X.cells : X → List C
  | .c x => [x]
  | .a cs => cs
/-- What is known of a type: is it an aggregate, its cells, its bytes, its zero value. -/
structure Ti where
  agg : Bool
  size : Nat
  bytes : Nat
  zero : X
/-- The shape of a type, as far as it is asked. -/
inductive Sh where
  | int (k : IntKind)
  | string
  | bool
  | ptr
  | slice (e : TypeId)
  | array (n : Nat) (e : TypeId)
  | struct (fs : List (Nat × TypeId))
  deriving Inhabited
/-- The program as the evaluator reads it: tables. -/
structure Env where
  fn : FuncId → Option Func
  ti : TypeId → Option Ti
  sh : TypeId → Option Sh
  eqT : List TypeId
  cd : FuncId → Nat → List (Nat × Nat)
  G : FuncId → Option (List X → St → Option (Va × St × Bool))
section
variable (P : Env)
def size? (t : TypeId) : Option Nat := (P.ti t).map (·.size)
def zero? (t : TypeId) : Option X := (P.ti t).map (·.zero)
def agg? (t : TypeId) : Option Bool := (P.ti t).map (·.agg)
/-- A part of an aggregate, or of a block. -/
def part? (t : TypeId) (cs : List C) (off : Nat) : Option X := do
  let s ← size? P t
  if ← agg? P t then (if off + s ≤ cs.length then some (.a ((cs.drop off).take s)) else none)
  else (cs[off]?).map .c
def fill (place : Nat → Option (Nat × Nat)) : List C → List (Nat × X) → Option (List C)
  | cs, [] => some cs
  | cs, (i, v) :: rest => do
    let (off, s) ← place i
    if v.cells.length = s ∧ off + s ≤ cs.length then fill place (cs.take off ++ v.cells ++ cs.drop (off + s)) rest else none

/-! ### Operations on numbers -/
def arith (op : BinOp) (k : IntKind) (a b : Int) : Option C :=
  match op with
  | .add => some (.int k (k.wrap (a + b)))
  | .sub => some (.int k (k.wrap (a - b)))
  | .mul => some (.int k (k.wrap (a * b)))
  | .quo => if b = 0 then none else some (.int k (k.wrap (a.tdiv b)))
  | .rem => if b = 0 then none else some (.int k (a.tmod b))
  | .and => some (.int k (k.wrap (BitVec.ofInt k.bits a &&& BitVec.ofInt k.bits b).toNat))
  | .or => some (.int k (k.wrap (BitVec.ofInt k.bits a ||| BitVec.ofInt k.bits b).toNat))
  | .xor => some (.int k (k.wrap (BitVec.ofInt k.bits a ^^^ BitVec.ofInt k.bits b).toNat))
  | .andNot => some (.int k (k.wrap (BitVec.ofInt k.bits a &&& ~~~ BitVec.ofInt k.bits b).toNat))
  | .eql => some (.bool (a == b))
  | .neq => some (.bool (a != b))
  | .lss => some (.bool (decide (a < b)))
  | .leq => some (.bool (decide (a ≤ b)))
  | .gtr => some (.bool (decide (a > b)))
  | .geq => some (.bool (decide (a ≥ b)))
  | _ => none
def shift (op : BinOp) (k : IntKind) (a b : Int) : Option C :=
  if b < 0 then none else
  match op with
  | .shl => some (.int k (k.wrap (a * 2 ^ min b.toNat k.bits)))
  | .shr => some (.int k (a.fdiv (2 ^ min b.toNat k.bits)))
  | _ => none
/-- Are two cells of numbers, bools or texts equal? -/
def C.eq? : C → C → Option Bool
  | .int k a, .int k' b => if k = k' then some (a == b) else none
  | .bool a, .bool b => some (a == b)
  | .str a, .str b => some (a == b)
  | _, _ => none
def eqCells : List C → List C → Option Bool
  | [], [] => some true
  | x :: xs, y :: ys => do
    let e ← C.eq? x y
    let r ← eqCells xs ys
    some (e && r)
  | _, _ => none
def strOp (op : BinOp) (a b : ByteArray) : Option C :=
  match op with
  | .eql => some (.bool (a.toList == b.toList))
  | .neq => some (.bool !(a.toList == b.toList))
  | .lss => some (.bool (Op.bytesLess a.toList b.toList))
  | .geq => some (.bool !(Op.bytesLess a.toList b.toList))
  | _ => none
def eqOut (op : BinOp) (b : Bool) : Option C :=
  match op with
  | .eql => some (.bool b)
  | .neq => some (.bool !b)
  | _ => none
def intOp (op : BinOp) (k k' : IntKind) (a b : Int) : Option C :=
  match op with
  | .shl | .shr => shift op k a b
  | _ => if k = k' then arith op k a b else none
/-- P.eqT: the types of aggregates that are compared cell by cell. -/
def bin (op : BinOp) (t : TypeId) (x y : X) : Option C :=
  match x, y with
  | .c (.int k a), .c (.int k' b) => intOp op k k' a b
  | .c (.bool a), .c (.bool b) => match P.sh t with
    | some .bool => eqOut op (a == b)
    | _ => none
  | .c (.str a), .c (.str b) => strOp op a b
  | .c (.ptr a), .c (.ptr none) => match P.sh t with
    | some .ptr => eqOut op a.isNone
    | _ => none
  | .c (.sl a _), .c (.sl none _) => match P.sh t with
    | some (.slice _) => eqOut op a.isNone
    | _ => none
  | .c .em, .c (.sl none _) => match P.sh t with
    | some (.slice _) => eqOut op false
    | _ => none
  | .a xs, .a ys => if P.eqT.contains t && (zero? P t).any (fun z => (eqCells xs z.cells).isSome) then (eqCells xs ys).bind (eqOut op) else none
  | _, _ => none
def un (op : UnOp) (x : X) : Option C :=
  match op, x with
  | .neg, .c (.int k n) => some (.int k (k.wrap (0 - n)))
  | .xor, .c (.int k n) => arith .xor k (if k.signed then -1 else k.max) n
  | .not, .c (.bool b) => some (.bool !b)
  | _, _ => none
def conv (src dst : TypeId) (x : X) : Option C :=
  match P.sh src, P.sh dst, x with
  | some (.int _), some (.int k), .c (.int _ n) => some (.int k (k.wrap n))
  | some .string, some .string, .c (.str s) => some (.str s)
  | _, _, _ => none

/-! ### One operation -/
def ev (T : List Va) : Operand → Option Va
  | .tmp t => T[t]?
  | .const v => (X.ofValue v).map .x
  | .func f => some (.x (.c (.fn f [])))
  | .global _ => none
def evX (T : List Va) (x : Operand) : Option X :=
  match ev T x with
  | some (.x v) => some v
  | _ => none
def evI (T : List Va) (x : Operand) : Option Int :=
  match evX T x with
  | some (.c (.int _ n)) => some n
  | _ => none
def evB (T : List Va) (x : Operand) : Option Bool :=
  match evX T x with
  | some (.c (.bool b)) => some b
  | _ => none
def evP (T : List Va) (x : Operand) : Option (Nat × Nat) :=
  match evX T x with
  | some (.c (.ptr (some p))) => some p
  | _ => none
def evS (T : List Va) (x : Operand) : Option (Option (Nat × Nat) × Nat) :=
  match evX T x with
  | some (.c (.sl p n)) => some (p, n)
  | _ => none
/-- A slice's length. -/
def evL (T : List Va) (x : Operand) : Option Nat :=
  match evX T x with
  | some (.c (.sl _ n)) => some n
  | some (.c .em) => some 0
  | _ => none
/-- A slice that is read. -/
def evQ (T : List Va) (x : Operand) : Option (Option (Nat × Nat) × Nat) :=
  match evX T x with
  | some (.c (.sl p n)) => some (p, n)
  | some (.c .em) => some (none, 0)
  | _ => none
def evA (T : List Va) (x : Operand) : Option (List C) :=
  match evX T x with
  | some (.a cs) => some cs
  | _ => none
def evT (T : List Va) (x : Operand) : Option (List X) :=
  match ev T x with
  | some (.t vs) => some vs
  | _ => none
def evParts (T : List Va) : List (Nat × Operand) → Option (List (Nat × X))
  | [] => some []
  | (i, x) :: rest => (evX T x).bind fun v => (evParts T rest).map fun l => (i, v) :: l
def evXs (T : List Va) : List Operand → Option (List X)
  | [] => some []
  | x :: rest => (evX T x).bind fun v => (evXs T rest).map fun l => v :: l
def evPs (T : List Va) : List Operand → Option (List (Nat × Nat))
  | [] => some []
  | x :: rest => (evP T x).bind fun v => (evPs T rest).map fun l => v :: l
def slE (t : TypeId) : Option TypeId := match P.sh t with | some (.slice e) => some e | _ => none
def arE (t : TypeId) : Option (Nat × TypeId) := match P.sh t with | some (.array n e) => some (n, e) | _ => none
def stF (t : TypeId) : Option (List (Nat × TypeId)) := match P.sh t with | some (.struct fs) => some fs | _ => none
def maxI : Int → Int → Int := fun x y => if y > x then y else x
def minI : Int → Int → Int := fun x y => if y < x then y else x
def foldI (f : Int → Int → Int) (k : IntKind) : Int → List X → Option X
  | m, [] => some (.c (.int k m))
  | m, .c (.int k' n) :: rest => if k = k' then foldI f k (f m n) rest else none
  | _, _ => none
def extremum (f : Int → Int → Int) : List X → Option X
  | .c (.int k m) :: rest => foldI f k m rest
  | _ => none
def maxBytes : Nat := 140737488355328
/-- How an operation goes to memory. -/
inductive Acc where
  | val (v : Va)
  | new (b : Blk) (v : Nat → X)
  | load (i : Nat) (k : List C → Option X)
  | store (i : Nat) (k : List C → Option (List C))
  | app (s bytes : Nat) (p : Option (Nat × Nat)) (n : Nat) (q : Option (Nat × Nat)) (m : Nat)
/-- The m cells behind a place. -/
def rowAt (S : St) (q : Option (Nat × Nat)) (m : Nat) : Option (List C) :=
  match q with
  | none => if m = 0 then some [] else none
  | some (i, o) => do
    let b ← S.h i
    if o + m ≤ b.cs.length then some ((b.cs.drop o).take m) else none
def Acc.run (A : Acc) (S : St) : Option (Va × St × Eff) :=
  match A with
  | .val v => some (v, S, .pure)
  | .new b v => some (.x (v S.n), S.new b, .new)
  | .load i k => do
    let b ← S.h i
    let x ← k b.cs
    some (.x x, S, .load i)
  | .store i k => do
    let b ← S.h i
    let cs ← k b.cs
    if b.wr then some (.u, S.set i { b with cs := cs }, .store i) else none
  | .app s bytes p n q m =>
    if m = 0 then some (.x (.c (.sl p n)), S, .pure) else do
    let new ← rowAt S q (m * s)
    if (n + m) * bytes ≤ maxBytes ∧ n + m ≤ maxBytes then
      match p with
      | none => if n = 0 then some (.x (.c (.sl (some (S.n, 0)) m)), S.new ⟨new, some s, true⟩, .app none (q.map (·.1))) else none
      | some (i, o) => do
        let b ← S.h i
        if b.row = some s ∧ b.wr = true ∧ o = 0 ∧ b.cs.length = n * s then
          some (.x (.c (.sl (some (S.n, 0)) (n + m))), (S.kill i).new ⟨b.cs ++ new, some s, true⟩, .app (some i) (q.map (·.1)))
        else none
    else none
def places : List (Nat × TypeId) → Option (List (Nat × Nat))
  | [] => some []
  | f :: rest => (size? P f.2).bind fun s => (places rest).map fun l => (f.1, s) :: l
/-- Where the parts of a struct or an array lie. -/
def place (t : TypeId) : Option (Nat → Option (Nat × Nat)) :=
  match P.sh t with
  | some (.struct fs) => (places P fs).map fun l => fun i => l[i]?
  | some (.array _ e) => (size? P e).map fun s => fun i => some (i * s, s)
  | _ => none
def sliced (s : Nat) (p : Option (Nat × Nat)) (n : Nat) (l h : Int) : Option Acc :=
  if 0 ≤ l ∧ l ≤ h ∧ h ≤ n ∧ 0 < s then
    match p with
    | none => some (.val (.x (.c (.sl none 0))))
    | some (i, o) => if l = h then some (.val (.x (.c .em))) else some (.val (.x (.c (.sl (some (i, o + l.toNat * s)) (h - l).toNat))))
  else none
def acc (o : Oper) (T : List Va) : Option Acc :=
  match o.op with
  | .move x | .assign x => (ev T x).map .val
  | .pick c a b => (evB T c).bind fun t => (ev T (if t then a else b)).map .val
  | .alloc t => (zero? P t).map fun z => .new ⟨z.cells, none, true⟩ fun n => .c (.ptr (some (n, 0)))
  | .box _ x => (evX T x).map fun v => .new ⟨v.cells, none, true⟩ fun n => .c (.ptr (some (n, 0)))
  | .build t parts => (zero? P t).bind fun z => (evParts T parts.toList).bind fun ps => (place P t).bind fun f => (fill f z.cells ps).map fun cs => .val (.x (.a cs))
  | .buildSlice t len parts => (slE P t).bind fun e => (P.ti e).bind fun i => (evParts T parts.toList).bind fun ps =>
    if len * i.size ≤ 2 ^ 24 ∧ 0 < i.size ∧ i.zero.cells.length = i.size then
      (fill (fun j => some (j * i.size, i.size)) (List.replicate len i.zero.cells).flatten ps).map fun cs => .new ⟨cs, some i.size, true⟩ fun n => .c (.sl (some (n, 0)) len)
    else none
  | .load t x => (evP T x).map fun p => .load p.1 fun cs => part? P t cs p.2
  | .store t x y => (evP T x).bind fun p => (evX T y).bind fun v => (size? P t).bind fun s =>
    if v.cells.length = s then some (.store p.1 fun cs => if p.2 + s ≤ cs.length then some (cs.take p.2 ++ v.cells ++ cs.drop (p.2 + s)) else none) else none
  | .nilCheck x => (evP T x).map fun p => .val (.x (.c (.ptr (some p))))
  | .binOp op t x y _ => (evX T x).bind fun a => (evX T y).bind fun b => (bin P op t a b).map fun v => .val (.x (.c v))
  | .unOp op _ x => (evX T x).bind fun a => (un op a).map fun v => .val (.x (.c v))
  | .convert src dst x => (evX T x).bind fun a => (conv P src dst a).map fun v => .val (.x (.c v))
  | .makeFunc (.func f) first captured => if first.size = 0 then (evPs T captured.toList).map fun ps => .val (.x (.c (.fn f ps))) else none
  | .makeSlice t l c => (slE P t).bind fun e => (evI T l).bind fun n => (evI T c).bind fun m => (P.ti e).bind fun i =>
    if n = m ∧ 0 ≤ n ∧ n * i.bytes ≤ maxBytes ∧ n ≤ maxBytes ∧ 0 < i.size ∧ i.zero.cells.length = i.size then
      some (.new ⟨(List.replicate n.toNat i.zero.cells).flatten, some i.size, true⟩ fun k => .c (.sl (some (k, 0)) n.toNat))
    else none
  | .slice t x lo hi none => (slE P t).bind fun e => (size? P e).bind fun s => (evS T x).bind fun q =>
    (match lo with | some y => evI T y | none => some 0).bind fun l => (match hi with | some y => evI T y | none => some (q.2 : Int)).bind fun h => sliced s q.1 q.2 l h
  | .fieldAddr t x f => (stF P t).bind fun fs => (fs[f]?).bind fun fd => (size? P fd.2).bind fun s => (evP T x).bind fun p => if 0 < s then some (.val (.x (.c (.ptr (some (p.1, p.2 + fd.1)))))) else none
  | .field t x f => (stF P t).bind fun fs => (fs[f]?).bind fun fd => (evA T x).bind fun cs => (part? P fd.2 cs fd.1).map fun v => .val (.x v)
  | .indexAddr t x ix => (evI T ix).bind fun j =>
    match P.sh t with
    | some (.array len e) => (size? P e).bind fun s => (evP T x).bind fun p => if 0 ≤ j ∧ j < len then some (.val (.x (.c (.ptr (some (p.1, p.2 + j.toNat * s)))))) else none
    | some (.slice e) => (size? P e).bind fun s => (evS T x).bind fun q => q.1.bind fun p => if 0 ≤ j ∧ j < q.2 then some (.val (.x (.c (.ptr (some (p.1, p.2 + j.toNat * s)))))) else none
    | _ => none
  | .index t x ix => (evI T ix).bind fun j => (arE P t).bind fun ne => (size? P ne.2).bind fun s => (evA T x).bind fun cs =>
    if 0 ≤ j ∧ j < ne.1 then (part? P ne.2 cs (j.toNat * s)).map fun v => .val (.x v) else none
  | .extract x i => (evT T x).bind fun vs => (vs[i]?).map fun v => .val (.x v)
  | .call { callee := .builtin .len, args, argTypes } => (argTypes[0]?).bind fun t => (slE P t).bind fun _ => (args[0]?).bind fun x => (evL T x).map fun (n : Nat) => .val (.x (.c (.int .i64 (n : Int))))
  | .call { callee := .builtin .max, args, .. } => (evXs T args.toList).bind fun xs => (extremum maxI xs).map fun v => .val (.x v)
  | .call { callee := .builtin .min, args, .. } => (evXs T args.toList).bind fun xs => (extremum minI xs).map fun v => .val (.x v)
  | .call { callee := .builtin .append, args, argTypes } => (argTypes[0]?).bind fun t => (slE P t).bind fun e => (argTypes[1]?).bind fun t2 => (slE P t2).bind fun _ => (P.ti e).bind fun i =>
    (args[0]?).bind fun x => (evS T x).bind fun p => (args[1]?).bind fun y => (evQ T y).bind fun q =>
    if 0 < i.size ∧ i.zero.cells.length = i.size then some (.app i.size i.bytes p.1 p.2 q.1 q.2) else none
  | _ => none
def xOp (o : Oper) (T : List Va) (S : St) : Option (Va × St × Eff) := (acc P o T).bind (·.run S)

/-! ### Code -/
inductive Ex where
  | nx
  | ex (id : Nat)
  | rt
/-- What is called: a function; the yield of a loop over a function. -/
inductive Fun where
  | f (g : FuncId)
  | y (i : Nat)
/-- A loop over a function: its function, the temporaries at its entry, its parameters, the assignments and the body of a round. -/
structure Yl where
  fn : FuncId
  T : List Va
  ps : List Tmp
  assign : Code
  body : Code
abbrev Yls := Nat → Option Yl
/-- The answer, the state behind the call, and: has nothing been written that was there? -/
abbrev CallF := Fun → List X → St → Option (Va × St × Bool)
/-- Is the callee a function that is known here? -/
def callee? (T : List Va) : Callee → Option (Fun × List X)
  | .value f => match evX T f with
    | some (.c (.fn g caps)) => some (.f g, caps.map fun p => .c (.ptr (some p)))
    | some (.c (.yl i)) => some (.y i, [])
    | _ => none
  | _ => none
def xStep (call : CallF) (o : Oper) (T : List Va) (S : St) : Option (Va × St × Eff) :=
  match o.op with
  | .call { callee := .value f, args, .. } => do
    let (g, caps) ← callee? T (.value f)
    let xs ← evXs T args.toList
    let (v, S', p) ← call g (xs ++ caps) S
    some (v, S', .call p)
  | _ => xOp P o T S
def put (T : List Va) (d : Option Tmp) (v : Va) : List Va :=
  match d with
  | some d => T.set d v
  | none => T
def wanted (ops : List Oper) (o : Oper) (T : List Va) : Option Bool :=
  match o.guard with
  | none => some true
  | some (j, b) => do
    let g ← ops[j]?
    let d ← g.dst
    let v ← T[d]?
    match v with
    | .x (.c (.bool c)) => some (c == b)
    | .n => some false
    | _ => none
def mayBad (o : Oper) : Bool :=
  match o.op with
  | .load .. | .store .. => true
  | .call { callee := .builtin b, .. } => b == .append
  | .call _ => true
  | _ => false
def isLoad (o : Oper) : Bool := match o.op with | .load .. => true | _ => false
def isCall (o : Oper) : Bool := match o.op with | .call { callee := .value _, .. } => true | _ => false
def mayNew (o : Oper) : Bool := match o.op with | .alloc .. | .box .. | .buildSlice .. | .makeSlice .. => true | _ => false
/-- Is the effect one that the operation's kind allows? -/
def okEff (o : Oper) : Eff → Bool
  | .pure => true
  | .new => mayNew o
  | .load _ => mayBad o
  | .call _ => mayBad o && !isLoad o && isCall o
  | _ => mayBad o && !isLoad o
/-- May the two not be exchanged? -/
def touchy (x y : Oper) : Bool := (mayBad x && mayBad y && !(isLoad x && isLoad y)) || (mayNew x && isCall y)
/-- The operations in the order of the text. -/
def xOps (call : CallF) (all : List Oper) : List Oper → List Va → St → Option (List Va × St × List Eff)
  | [], T, S => some (T, S, [])
  | o :: rest, T, S => do
    if ← wanted all o T then
      let (v, S', e) ← xStep P call o T S
      if o.dst.all (· < T.length) && okEff o e then
        let (T', S'', es) ← xOps call all rest (put T o.dst v) S'
        some (T', S'', e :: es)
      else none
    else
      let (T', S'', es) ← xOps call all rest (put T o.dst .n) S
      some (T', S'', .pure :: es)
def fine (cs : List (Nat × Nat)) (es : List Eff) : Bool :=
  cs.all fun (i, j) => !(Eff.bad (es.getD i .pure) (es.getD j .pure))
def iter (f : List Va → St → Option (Ex × List Va × St)) : Nat → List Va → St → Option (Ex × List Va × St)
  | 0, _, _ => none
  | n + 1, T, S =>
    match f T S with
    | some (.nx, T', S') => iter f n T' S'
    | r => r
/-- The call that a loop over a function makes. -/
def ranged (call : Yls → CallF) (ys : Yls) (fn : FuncId) (g : Operand) (ps : List Tmp) (assign body : Code) (T : List Va) (S : St) : Option (Ex × List Va × St) :=
  match evX T g with
  | some (.c (.fn gf caps)) => if (P.fn gf).any (·.body.isSome) then do
    let (_, S', _) ← call (fun j => if j = S.n then some ⟨fn, T, ps, assign, body⟩ else ys j) (.f gf) (.c (.yl S.n) :: caps.map fun p => .c (.ptr (some p))) { S with n := S.n + 1 }
    some (.nx, T, S')
    else none
  | _ => none
def xCode (cd : Nat → List (Nat × Nat)) (call : Yls → CallF) (ys : Yls) (fn : FuncId) (rnd : Bool) (fuel : Nat) : Code → List Va → St → Option (Ex × List Va × St)
  | .skip, T, S => some (.nx, T, S)
  | .region id ops draw, T, S => do
    let (T', S', es) ← xOps P (call ys) ops.toList ops.toList T S
    if draw && !(fine (cd id) es) then none else some (.nx, T', S')
  | .seq a b, T, S =>
    match xCode cd call ys fn rnd fuel a T S with
    | some (.nx, T', S') => xCode cd call ys fn rnd fuel b T' S'
    | r => r
  | .cond c a b, T, S => do
    let t ← evB T c
    if t then xCode cd call ys fn rnd fuel a T S else xCode cd call ys fn rnd fuel b T S
  | .block id c, T, S =>
    match xCode cd call ys fn rnd fuel c T S with
    | some (.ex id', T', S') => some (if id' = id then .nx else .ex id', T', S')
    | r => r
  | .loop c, T, S => iter (xCode cd call ys fn rnd fuel c) fuel T S
  | .rangeFunc g ps assign body, T, S => if rnd then none else ranged P call ys fn g ps.toList assign body T S
  | .exit id, T, S => some (.ex id, T, S)
  | .ret, T, S => some (.rt, T, S)
  | _, _, _ => none

/-! ### Calls -/
def toPtr : X → Option (Nat × Nat)
  | .c (.ptr (some p)) => some p
  | _ => none
def resOf (T : List Va) (S : St) : ResultVar → Option X
  | .tmp t => match T[t]? with | some (.x v) => some v | _ => none
  | .cell a t => do
    let .x v ← T[a]? | none
    let (i, o) ← toPtr v
    let b ← S.h i
    part? P t b.cs o
/-- Does a cell name a virtual block from n on? -/
def C.flat : C → Bool
  | .ptr (some _) | .sl (some _) _ => false
  | .fn _ caps => caps.isEmpty
  | .yl _ => false
  | _ => true
def C.old (n : Nat) : C → Bool
  | .ptr (some (i, _)) => decide (i < n)
  | .sl (some (i, _)) _ => decide (i < n)
  | .fn _ caps => caps.all fun p => decide (p.1 < n)
  | .yl i => decide (i < n)
  | _ => true
/-- A result's cells, each new row of plain cells taken along under the next number. -/
def keep (n : Nat) (S' : St) : List C → Nat → (Nat → Option Blk) → Option (List C × Nat × (Nat → Option Blk))
  | [], m, h => some ([], m, h)
  | c :: rest, m, h =>
    if c.old n then do
      let (cs, m', h') ← keep n S' rest m h
      some (c :: cs, m', h')
    else match c with
      | .sl (some (i, 0)) len => do
        let b ← S'.h i
        if b.cs.all C.flat ∧ b.row.isSome ∧ b.wr then
          let (cs, m', h') ← keep n S' rest (m + 1) (fun j => if j = m then some b else h j)
          some (.sl (some (m, 0)) len :: cs, m', h')
        else none
      | _ => none
def keepX (n : Nat) (S' : St) : List X → Nat → (Nat → Option Blk) → Option (List X × Nat × (Nat → Option Blk))
  | [], m, h => some ([], m, h)
  | .c x :: rest, m, h => do
    let (cs, m1, h1) ← keep n S' [x] m h
    let (xs, m2, h2) ← keepX n S' rest m1 h1
    some (.c (cs.headD default) :: xs, m2, h2)
  | .a cs :: rest, m, h => do
    let (cs', m1, h1) ← keep n S' cs m h
    let (xs, m2, h2) ← keepX n S' rest m1 h1
    some (.a cs' :: xs, m2, h2)
def newId (n : Nat) : C → Option Nat
  | .sl (some (i, _)) _ => if n ≤ i then some i else none
  | _ => none
def newIds (n : Nat) : List X → List Nat
  | [] => []
  | x :: rest => x.cells.filterMap (newId n) ++ newIds n rest
/-- Behind a call: what the results don't lead to is forgotten, if that can be. -/
def tidy (S S' : St) (vs : List X) : List X × St × Bool :=
  if S.n ≤ S'.lo then
    match (if (newIds S.n vs).Nodup then keepX S.n S' vs S.n S.h else none) with
    | some (vs', m, h) => (vs', { n := m, h, lo := S.lo }, true)
    | none => (vs, { S' with lo := S.lo }, true)
  else (vs, { S' with lo := min S.lo S'.lo }, false)
/-- The values of a round's parameters. -/
def setAll : List Va → List Tmp → List X → List Va
  | T, t :: ts, x :: xs => setAll (T.set t (.x x)) ts xs
  | T, _, _ => T
/-- A round. -/
def round (cd : Nat → List (Nat × Nat)) (call : Yls → CallF) (ys : Yls) (k : Nat) (L : Yl) (args : List X) (S : St) : Option (Va × St × Bool) :=
  if args.length = L.ps.length then
    match xCode P cd call ys L.fn true k L.assign (setAll L.T L.ps args) S with
    | some (.nx, T1, S1) =>
      match xCode P cd call ys L.fn true k L.body T1 S1 with
      | some (.nx, _, S2) => some (.x (.c (.bool true)), S2, false)
      | _ => none
    | _ => none
  else none
def xCall : Nat → Yls → CallF
  | 0, _ => fun _ _ _ => none
  | k + 1, ys => fun
    | .y i => fun args S => (ys i).bind fun L => round P (P.cd L.fn) (xCall k) (fun _ => none) k L args S
    | .f f => fun args S =>
      match P.G f with
      | some g => g args S
      | none => do
        let fn ← P.fn f
        let c ← fn.body
        let (e, T, S') ← xCode P (P.cd f) (xCall k) ys f false k c (args.map .x ++ List.replicate (fn.ntmps - args.length) .u) { S with lo := S.n }
        match e with
        | .ex _ => none
        | _ => do
          let vs ← fn.results.toList.mapM (resOf P T S')
          let (vs', S'', p) := tidy S S' vs
          some (match vs' with | [v] => .x v | _ => .t vs', S'', p)
end
end Go.V
