/- The abstract evaluator: definitions alone. States are built of plain trees; names of blocks are abstract keys. No condition. -/
import Derived.Control
import Derived.Below
namespace Go.Ev
set_option linter.unusedVariables false
set_option autoImplicit false

/-- Names of blocks and of slots: positive binary numbers. -/
inductive Key where
  | one
  | o (p : Key)
  | i (p : Key)
  deriving Inhabited

noncomputable def Key.succ (k : Key) : Key := @Key.rec (fun _ => Key) (.o .one) (fun p _ => .i p) (fun _ ih => .o ih) k
noncomputable def Key.ofNat (n : Nat) : Key := @Nat.rec (fun _ => Key) .one (fun _ k => k.succ) n
noncomputable def Key.eqb (a b : Key) : Bool :=
  @Key.rec (fun _ => Key → Bool) (fun b => Key.casesOn b true (fun _ => false) (fun _ => false))
    (fun _ ih b => Key.casesOn b false ih (fun _ => false)) (fun _ ih b => Key.casesOn b false (fun _ => false) ih) a b

inductive Tr (α : Type) where
  | leaf
  | node (l : Tr α) (v : Option α) (r : Tr α)

instance {α : Type} : Inhabited (Tr α) := ⟨.leaf⟩
namespace Tr
variable {α : Type}
def nodeL (x : Tr α) (v : Option α) (r : Tr α) : Tr α :=
  Tr.casesOn x (.node .leaf v r) fun a b c => .node (.node a b c) v r
def nodeR (l : Tr α) (v : Option α) (x : Tr α) : Tr α :=
  Tr.casesOn x (.node l v .leaf) fun a b c => .node l v (.node a b c)
noncomputable def get (t : Tr α) (k : Key) : Option α :=
  @Key.rec (fun _ => Tr α → Option α) (fun t => Tr.casesOn t none fun _ v _ => v)
    (fun _ ih t => Tr.casesOn t none fun l _ _ => ih l) (fun _ ih t => Tr.casesOn t none fun _ _ r => ih r) k t
noncomputable def put (t : Tr α) (k : Key) (x : Option α) : Tr α :=
  @Key.rec (fun _ => Tr α → Tr α) (fun t => Tr.casesOn t (.node .leaf x .leaf) fun l _ r => .node l x r)
    (fun _ ih t => Tr.casesOn t (nodeL (ih .leaf) none .leaf) fun l v r => nodeL (ih l) v r)
    (fun _ ih t => Tr.casesOn t (nodeR .leaf none (ih .leaf)) fun l v r => nodeR l v (ih r)) k t
end Tr

section lists
variable {α : Type}
noncomputable def nthL (l : List α) (n : Nat) : Option α :=
  @List.rec α (fun _ => Nat → Option α) (fun _ => none) (fun x _ ih n => @Nat.casesOn (fun _ => Option α) n (some x) ih) l n
noncomputable def takeL (n : Nat) (l : List α) : Option (List α) :=
  @Nat.rec (fun _ => List α → Option (List α)) (fun _ => some [])
    (fun _ ih l => @List.casesOn α (fun _ => Option (List α)) l none fun x l => @Option.casesOn (List α) (fun _ => Option (List α)) (ih l) none fun r => some (x :: r)) n l
noncomputable def dropL (n : Nat) (l : List α) : List α :=
  @Nat.rec (fun _ => List α → List α) (fun l => l) (fun _ ih l => @List.casesOn α (fun _ => List α) l [] fun _ l => ih l) n l
noncomputable def putL (xs : List α) (l : List α) : Option (List α) :=
  @List.rec α (fun _ => List α → Option (List α)) (fun l => some l)
    (fun x _ ih l => @List.casesOn α (fun _ => Option (List α)) l none fun _ l => @Option.casesOn (List α) (fun _ => Option (List α)) (ih l) none fun r => some (x :: r)) xs l
noncomputable def putAt (off : Nat) (xs : List α) (l : List α) : Option (List α) :=
  @Nat.rec (fun _ => List α → Option (List α)) (fun l => putL xs l)
    (fun _ ih l => @List.casesOn α (fun _ => Option (List α)) l none fun y l => @Option.casesOn (List α) (fun _ => Option (List α)) (ih l) none fun r => some (y :: r)) off l
noncomputable def subL (off n : Nat) (l : List α) : Option (List α) := takeL n (dropL off l)
end lists

/-- Values, over abstract names. `lit`: what holds no block's name. -/
inductive AV where
  | lit (v : Value)
  | ptr (b : Key) (off : Nat)
  | slc (b : Key) (off len : Nat) (cap : Option Nat) (esz : Nat)
  | map (b : Key)
  | fn (f : Fn) (first captured : List AV)
  | yld (b : Key)
  | ifc (t : TypeId) (v : AV)
  | agg (l : List AV)
  | tup (l : List AV)
  deriving Inhabited

inductive AObj where
  | cells (cs : List AV) (ro : Bool)
  | map (es : List (AV × AV))
  | loop (state : LoopState) (pending : Option Code) (fn : FuncId) (n : Nat) (T : Tr AV) (params : List Tmp) (assign body : Code) (defers : Key)
  | defs (open_ : Bool)
  deriving Inhabited

structure Heap where
  t : Tr AObj
  nx : Key
  deriving Inhabited

noncomputable section

def undefA : AV := .lit undef

def Heap.get (h : Heap) (b : Key) : Option AObj := h.t.get b
def Heap.set (h : Heap) (b : Key) (o : AObj) : Heap := { t := h.t.put b (some o), nx := h.nx }
def Heap.del (h : Heap) (b : Key) : Heap := { t := h.t.put b none, nx := h.nx }
def Heap.new (h : Heap) (o : AObj) : Heap := { t := h.t.put h.nx (some o), nx := h.nx.succ }

/-- A value that the model gives (a constant, a zero): its cells stand alone. -/
def ofVal : Value → AV
  | .agg cs => .agg (cs.toList.map AV.lit)
  | v => .lit v

def AV.cells : AV → List AV
  | .agg l => l
  | .lit v => match v with
    | .agg cs => cs.toList.map AV.lit
    | v => [.lit v]
  | v => [v]

def AV.one : AV → Bool
  | .lit v => match v with
    | .agg _ | .tuple _ => false
    | _ => true
  | .agg _ | .tup _ => false
  | _ => true

def allOne (l : List AV) : Bool := l.all AV.one

/-- Operands, where the slots are told. -/
def evF (P : Program) (g : Tmp → AV) : Operand → AV
  | .tmp t => g t
  | .const v => ofVal v
  | .global g => if Nat.blt g P.globals.size then .ptr (Key.ofNat g) 0 else .lit (.pointer (some ⟨g, 0, none⟩))
  | .func f => .fn (.func f) [] []

def slotT (T : Tr AV) (t : Tmp) : AV := (T.get (Key.ofNat t)).getD undefA

def ev (P : Program) (T : Tr AV) : Operand → AV := evF P (slotT T)

section ops
variable (P : Program)

def isAggP (t : TypeId) : Option Bool :=
  match P.underlying t with
  | some (.struct _) | some (.array _ _) => some true
  | some _ => some false
  | none => none

def sizeP (t : TypeId) : Option Nat := (P.info? t).map (·.size)
def bytesP (t : TypeId) : Option Nat := (P.info? t).map (·.bytes)
def zeroP (t : TypeId) : Option Value := (P.info? t).bind (·.zero)

def loadA (t : TypeId) (b : Key) (off : Nat) (h : Heap) : Option AV :=
  match h.get b with
  | some (.cells cs _) =>
    match isAggP P t with
    | some true => match sizeP P t with
      | some n => match subL off n cs with
        | some l => some (.agg l)
        | none => none
      | none => none
    | some false => nthL cs off
    | none => none
  | _ => none

def writeA (b : Key) (off : Nat) (l : List AV) (h : Heap) : Option Heap :=
  match h.get b with
  | some (.cells cs false) => match putAt off l cs with
    | some cs' => some (h.set b (.cells cs' false))
    | none => none
  | _ => none

def storeA (t : TypeId) (b : Key) (off : Nat) (v : AV) (h : Heap) : Option Heap :=
  let l := v.cells
  match sizeP P t with
  | some n => if Nat.beq l.length n && allOne l then writeA b off l h else none
  | none => none

def partA (t : TypeId) (l : List AV) (off : Nat) : Option AV :=
  match isAggP P t with
  | some true => match sizeP P t with
    | some n => match subL off n l with
      | some l => some (.agg l)
      | none => none
    | none => none
  | some false => nthL l off
  | none => none

/-- `==` where the evaluator knows it. -/
def eqFields (rec_ : TypeId → AV → AV → Option Bool) (xs ys : List AV) : List Field → Option Bool
  | [] => some true
  | f :: fs =>
    if f.name = "_" then eqFields rec_ xs ys fs else
    match partA P f.type xs f.offset, partA P f.type ys f.offset with
    | some x, some y => match rec_ f.type x y with
      | some true => eqFields rec_ xs ys fs
      | r => r
    | _, _ => none

def eqElems (rec_ : TypeId → AV → AV → Option Bool) (xs ys : List AV) (elem n : Nat) : Nat → Nat → Option Bool
  | 0, _ => some true
  | k + 1, i =>
    match partA P elem xs (i * n), partA P elem ys (i * n) with
    | some x, some y => match rec_ elem x y with
      | some true => eqElems rec_ xs ys elem n k (i + 1)
      | r => r
    | _, _ => none

def eqA : Nat → TypeId → AV → AV → Option Bool
  | 0, _, _, _ => none
  | d + 1, t, x, y =>
    match P.underlying t with
    | some .bool => match x, y with
      | .lit (.bool a), .lit (.bool b) => some (a == b)
      | _, _ => none
    | some (.int _) => match x, y with
      | .lit (.int k a), .lit (.int k' b) => if k = k' then some (a == b) else none
      | _, _ => none
    | some .string => match x, y with
      | .lit (.string a), .lit (.string b) => some (a == b)
      | _, _ => none
    | some (.pointer _) => match x, y with
      | .lit (.pointer none), .lit (.pointer none) => some true
      | .lit (.pointer none), .ptr _ _ => some false
      | .ptr _ _, .lit (.pointer none) => some false
      | _, _ => none
    | some (.interface _) => match x, y with
      | .lit .nilIface, .lit .nilIface => some true
      | .lit .nilIface, .ifc _ _ => some false
      | .ifc _ _, .lit .nilIface => some false
      | .ifc t u, .ifc t' u' => if t ≠ t' then some false else
        match P.info? t with
        | some i => if i.comparable then eqA d t u u' else none
        | none => none
      | _, _ => none
    | some (.struct fields) => match x, y with
      | .agg xs, .agg ys => if P.stoodInHeld t then none else eqFields P (eqA d) xs ys fields.toList
      | _, _ => none
    | some (.array len elem) => match x, y with
      | .agg xs, .agg ys => match sizeP P elem with
        | some n => eqElems P (eqA d) xs ys elem n len 0
        | none => none
      | _, _ => none
    | some (.slice _) => match x, y with
      | .lit (.slice none _ _), .lit (.slice none _ _) => some true
      | .lit (.slice none _ _), .slc _ _ _ _ _ => some false
      | .slc _ _ _ _ _, .lit (.slice none _ _) => some false
      | _, _ => none
    | some (.func _ _ _) => match x, y with
      | .lit .nilFunc, .lit .nilFunc => some true
      | .lit .nilFunc, .fn _ _ _ => some false
      | .fn _ _ _, .lit .nilFunc => some false
      | _, _ => none
    | some (.map _ _) => match x, y with
      | .lit (.map none), .lit (.map none) => some true
      | .lit (.map none), .map _ => some false
      | .map _, .lit (.map none) => some false
      | _, _ => none
    | _ => none

def wrapF (k : IntKind) (n : Int) : Int :=
  match n with
  | .ofNat m => match k with
    | .i64 => if Nat.ble m 9223372036854775807 then .ofNat m else k.wrap n
    | _ => k.wrap n
  | .negSucc _ => k.wrap n

def intBinA (op : BinOp) (k : IntKind) (a b : Int) : Option Value :=
  match op with
  | .add => some (.int k (wrapF k (a + b)))
  | .sub => some (.int k (wrapF k (a - b)))
  | .mul => some (.int k (wrapF k (a * b)))
  | .quo => if b = 0 then none else some (.int k (k.wrap (a.tdiv b)))
  | .rem => if b = 0 then none else some (.int k (a.tmod b))
  | .and => some (.int k (k.wrap (BitVec.ofInt k.bits a &&& BitVec.ofInt k.bits b).toNat))
  | .or => some (.int k (k.wrap (BitVec.ofInt k.bits a ||| BitVec.ofInt k.bits b).toNat))
  | .xor => some (.int k (k.wrap (BitVec.ofInt k.bits a ^^^ BitVec.ofInt k.bits b).toNat))
  | .andNot => some (.int k (k.wrap (BitVec.ofInt k.bits a &&& ~~~BitVec.ofInt k.bits b).toNat))
  | .eql => some (.bool (a == b))
  | .neq => some (.bool (a != b))
  | .lss => some (.bool (a < b))
  | .leq => some (.bool (a ≤ b))
  | .gtr => some (.bool (a > b))
  | .geq => some (.bool (a ≥ b))
  | _ => none

def shiftA (op : BinOp) (k : IntKind) (x y : Int) : Option Value :=
  if y < 0 then none else
  match op with
  | .shl => some (.int k (k.wrap (x * 2 ^ (min y.toNat k.bits))))
  | .shr => some (.int k (x.fdiv (2 ^ (min y.toNat k.bits))))
  | _ => none

def isEq : BinOp → Bool
  | .eql | .neq => true
  | _ => false

def binA (op : BinOp) (t : TypeId) (cst : Bool) (x y : AV) : Option AV :=
  match x, y with
  | .lit (.int k a), .lit (.int k' b) => match op with
    | .shl | .shr => (shiftA op k a b).map .lit
    | _ => if k = k' then (intBinA op k a b).map .lit else none
  | .lit (.string a), .lit (.string b) => match op with
    | .eql => some (.lit (.bool (a.toList == b.toList)))
    | .neq => some (.lit (.bool (!(a.toList == b.toList))))
    | .add => if ((a.size + b.size : Nat) : Int) > IntKind.i64.max then none else some (.lit (.string (a ++ b)))
    | _ => none
  | .lit .nilIface, .lit .nilIface => if !cst then none else
    match op with
    | .eql => (eqA P Op.maxDepth t x y).map fun b => .lit (.bool b)
    | .neq => (eqA P Op.maxDepth t x y).map fun b => .lit (.bool (!b))
    | _ => none
  | .lit (.float _ _), _ | .lit (.complex _ _ _), _ => none
  | .agg _, .agg _ => if P.eqGuardType P.depth t then none else
    match op with
    | .eql => (eqA P Op.maxDepth t x y).map fun b => .lit (.bool b)
    | .neq => (eqA P Op.maxDepth t x y).map fun b => .lit (.bool (!b))
    | _ => none
  | _, _ => match op with
    | .eql => (eqA P Op.maxDepth t x y).map fun b => .lit (.bool b)
    | .neq => (eqA P Op.maxDepth t x y).map fun b => .lit (.bool (!b))
    | _ => none

def unA (op : UnOp) (x : AV) : Option AV :=
  match op, x with
  | .neg, .lit (.int k n) => some (.lit (.int k (wrapF k (0 - n))))
  | .not, .lit (.bool b) => some (.lit (.bool (!b)))
  | _, _ => none

def convA (src dst : TypeId) (x : AV) : Option AV :=
  match P.underlying src, P.underlying dst with
  | some _, some (.int k) => match x with
    | .lit (.int _ n) => some (.lit (.int k (wrapF k n)))
    | _ => none
  | some .string, some .string => match x with
    | .lit (.string s) => some (.lit (.string s))
    | _ => none
  | _, _ => none

/-- 0 ≤ i < len, as numbers. -/
def inside (i : Int) (len : Nat) : Option Nat :=
  match i with
  | .ofNat n => if Nat.blt n len then some n else none
  | .negSucc _ => none
def upto (i : Int) (len : Nat) : Option Nat :=
  match i with
  | .ofNat n => if Nat.ble n len then some n else none
  | .negSucc _ => none

def fieldAddrA (s : TypeId) (x : AV) (f : Nat) : Option AV :=
  match x with
  | .ptr b off => match P.underlying s with
    | some (.struct fields) => match fields[f]? with
      | some fd => match sizeP P fd.type with
        | some (_ + 1) => some (.ptr b (off + fd.offset))
        | _ => none
      | none => none
    | _ => none
  | _ => none

def fieldA (t : TypeId) (x : AV) (f : Nat) : Option AV :=
  match x with
  | .agg l => match P.underlying t with
    | some (.struct fields) => match fields[f]? with
      | some fd => partA P fd.type l fd.offset
      | none => none
    | _ => none
  | _ => none

def indexAddrA (t : TypeId) (x ix : AV) : Option AV :=
  match ix with
  | .lit (.int _ i) => match P.underlying t, x with
    | some (.array len elem), .ptr b off => match inside i len, sizeP P elem with
      | some n, some z => some (.ptr b (off + n * z))
      | _, _ => none
    | some (.slice elem), .slc b off len _ esz => match inside i len, sizeP P elem with
      | some n, some z => if Nat.beq z esz then some (.ptr b (off + n * z)) else none
      | _, _ => none
    | _, _ => none
  | _ => none

def indexA (t : TypeId) (x ix : AV) : Option AV :=
  match ix with
  | .lit (.int _ i) => match P.underlying t, x with
    | some (.array len elem), .agg l => match inside i len, sizeP P elem with
      | some n, some z => partA P elem l (n * z)
      | _, _ => none
    | some .string, .lit (.string s) => match inside i s.size with
      | some n => match s[n]? with
        | some b => some (.lit (.int .u8 b.toNat))
        | none => none
      | none => none
    | _, _ => none
  | _ => none

def natOf (dflt : Nat) (most : Nat) : Option AV → Option Nat
  | none => some dflt
  | some (.lit (.int _ i)) => upto i most
  | some _ => none

/-- A slice expression over a row: what it is of, its length and how far its bounds may go. -/
def cutA (b : Key) (off len : Nat) (cap : Option Nat) (esz : Nat) (lo hi mx : Option AV) : Option AV :=
  match mx with
  | some m => match natOf 0 (cap.getD len) (some m), hi with
    | some m, some hh => match natOf 0 m (some hh) with
      | some h => match natOf 0 h lo with
        | some l => some (.slc b (off + l * esz) (h - l) (some (m - l)) esz)
        | none => none
      | none => none
    | _, _ => none
  | none => match natOf len (cap.getD len) hi with
    | some h => match natOf 0 h lo with
      | some l => some (.slc b (off + l * esz) (h - l) (cap.map (· - l)) esz)
      | none => none
    | none => none

/-- Has a block so many cells? -/
def holdsA (b : Key) (n : Nat) (h : Heap) : Bool :=
  match h.get b with
  | some (.cells cs _) => Nat.ble n cs.length
  | _ => false

def sliceA (t : TypeId) (x : AV) (lo hi mx : Option AV) (h : Heap) : Option AV :=
  match P.underlying t with
  | some (.array n elem) => match x, sizeP P elem with
    | .ptr b off, some z => if holdsA b (off + n * z) h then cutA b off n (some n) z lo hi mx else none
    | _, _ => none
  | some (.slice elem) => match x, sizeP P elem with
    | .slc b off len cap esz, some z => if Nat.beq z esz then cutA b off len cap z lo hi mx else none
    | .lit (.slice none 0 0), some _ => match natOf 0 0 mx, natOf 0 0 hi, natOf 0 0 lo with
      | some _, some _, some _ => if mx.isSome && !hi.isSome then none else some (.lit (.slice none 0 0))
      | _, _, _ => none
    | _, _ => none
  | some .string => match x, mx with
    | .lit (.string s), none => match natOf s.size s.size hi with
      | some h => match natOf 0 h lo with
        | some l => some (.lit (.string (s.extract l h)))
        | none => none
      | none => none
    | _, _ => none
  | some (.pointer arr) => match x, P.underlying arr with
    | .ptr b off, some (.array n elem) => match sizeP P elem with
      | some z => if holdsA b (off + n * z) h then cutA b off n (some n) z lo hi mx else none
      | none => none
    | _, _ => none
  | _ => none

/-- The cells of a literal: parts laid over zeros. -/
def fillA (place : Nat → Option (Nat × Nat)) : List (Nat × AV) → List AV → Option (List AV)
  | [], cells => some cells
  | (i, v) :: rest, cells =>
    match place i with
    | some (off, size) => if Nat.beq v.cells.length size then
        match putAt off v.cells cells with
        | some cells' => fillA place rest cells'
        | none => none
      else none
    | none => none

def placesP (t : TypeId) : Option (List (Nat × Nat)) :=
  match P.underlying t with
  | some (.struct fields) => fields.toList.mapM (fun f => (P.info? f.type).map fun i => (f.offset, i.size))
  | _ => none

def buildA (t : TypeId) (parts : List (Nat × AV)) : Option AV :=
  match zeroP P t with
  | some z => match P.underlying t with
    | some (.struct _) => match placesP P t with
      | some pl => match fillA (nthL pl) parts (z.cells.toList.map AV.lit) with
        | some l => some (.agg l)
        | none => none
      | none => none
    | some (.array _ elem) => match sizeP P elem with
      | some s => match fillA (fun i => some (i * s, s)) parts (z.cells.toList.map AV.lit) with
        | some l => some (.agg l)
        | none => none
      | none => none
    | _ => none
  | none => none

def zerosA (n : Nat) (z : List AV) : List AV := (List.replicate n z).flatten

def buildSliceA (t : TypeId) (len : Nat) (parts : List (Nat × AV)) (h : Heap) : Option (AV × Heap) :=
  match P.underlying t with
  | some (.slice elem) => match P.info? elem with
    | some i => match i.zero with
      | some z => if Nat.beq z.cells.size i.size && Nat.ble (len * i.size) 65536 then
          match fillA (fun k => some (k * i.size, i.size)) parts (zerosA len (z.cells.toList.map AV.lit)) with
          | some l => some (.slc h.nx 0 len (some len) i.size, h.new (.cells l false))
          | none => none
        else none
      | none => none
    | none => none
  | _ => none

def makeSliceA (t : TypeId) (len cap : AV) (h : Heap) : Option (AV × Heap) :=
  match P.underlying t with
  | some (.slice elem) => match P.info? elem, len, cap with
    | some i, .lit (.int _ l), .lit (.int _ c) => match i.zero, upto c 65536 with
      | some z, some c => match upto l c with
        | some l => if Nat.beq z.cells.size i.size && Nat.ble (i.bytes * c) 16777216 then
            some (.slc h.nx 0 l (some c) i.size, h.new (.cells (zerosA c (z.cells.toList.map AV.lit)) false))
          else none
        | none => none
      | _, _ => none
    | _, _, _ => none
  | _ => none

/-- The cells of a slice's first n elements. -/
def rowA (size n : Nat) (x : AV) (h : Heap) : Option (List AV) :=
  match x with
  | .slc b off len _ esz => if Nat.ble n len && Nat.beq size esz then
      match h.get b with
      | some (.cells cs _) => subL off (n * size) cs
      | _ => none
    else none
  | .lit (.slice none _ _) => if Nat.beq n 0 then some [] else none
  | _ => none

def lenA : AV → Option Nat
  | .slc _ _ n _ _ => some n
  | .lit (.slice none n _) => some n
  | .lit (.string s) => some s.size
  | _ => none

def appendA (argTypes : Array TypeId) (args : List AV) (h : Heap) : Option (AV × Heap) :=
  match args with
  | [s, x] => match argTypes[0]?, argTypes[1]? with
    | some t, some xt => match P.underlying t, P.underlying xt with
      | some (.slice elem), some (.slice _) => match P.info? elem, lenA x with
        | some i, some n => match rowA i.size n x h with
          | some new => match i.zero with
            | some z => if !Nat.beq z.cells.size i.size then none else match s with
              | .lit (.slice none 0 0) =>
                if Nat.beq n 0 then some (s, h) else
                if Nat.ble (n * i.bytes) 16777216 && Nat.ble n 16777216 then some (.slc h.nx 0 n none i.size, h.new (.cells new false)) else none
              | .slc b off len cap esz =>
                if !Nat.beq esz i.size then none else
                if Nat.beq n 0 then some (s, h) else
                let need := len + n
                if !(Nat.ble (need * i.bytes) 16777216 && Nat.ble need 16777216) then none else
                match cap with
                | some c => if Nat.ble need c then
                    if !allOne new then none else
                    match writeA b (off + len * i.size) new h with
                    | some h' => some (.slc b off need cap esz, h')
                    | none => none
                  else match rowA i.size len s h with
                    | some old => some (.slc h.nx 0 need none i.size, h.new (.cells (old ++ new) false))
                    | none => none
                | none => if !(Nat.beq off 0 && Nat.blt 0 len && allOne new) then none else match h.get b with
                  | some (.cells cs false) => match subL 0 (len * i.size) cs with
                    | some old => some (.slc h.nx 0 need none i.size, (h.new (.cells (old ++ new) false)).del b)
                    | none => none
                  | _ => none
              | _ => none
            | none => none
          | none => none
        | _, _ => none
      | _, _ => none
    | _, _ => none
  | _ => none

def copyA (argTypes : Array TypeId) (args : List AV) (h : Heap) : Option (AV × Heap) :=
  match args with
  | [d, s] => match argTypes[0]? with
    | some t => match P.underlying t, d, lenA s with
      | some (.slice elem), .slc b off len _ esz, some m => match sizeP P elem with
        | some z => let n := if Nat.ble m len then m else len
          if !Nat.beq z esz then none else
          match rowA z n s h with
          | some [] => some (.lit (goInt n), h)
          | some l => if !allOne l then none else
            match writeA b off l h with
            | some h' => some (.lit (goInt n), h')
            | none => none
          | none => none
        | none => none
      | some (.slice elem), .lit (.slice none 0 0), some _ => match sizeP P elem with
        | some _ => some (.lit (goInt 0), h)
        | none => none
      | _, _, _ => none
    | none => none
  | _ => none

def lenOpA (argTypes : Array TypeId) (args : List AV) (h : Heap) : Option AV :=
  match args with
  | [x] => match argTypes[0]? with
    | some t => match P.underlying t, x with
      | some .string, .lit (.string s) => some (.lit (goInt s.size))
      | some (.slice _), .slc _ _ n _ _ => some (.lit (goInt n))
      | some (.slice _), .lit (.slice none n _) => some (.lit (goInt n))
      | some (.array n _), _ => some (.lit (goInt n))
      | some (.pointer arr), _ => match P.underlying arr with
        | some (.array n _) => some (.lit (goInt n))
        | _ => none
      | some (.map _ _), .lit (.map none) => some (.lit (goInt 0))
      | some (.map _ _), .map b => match h.get b with
        | some (.map es) => some (.lit (goInt es.length))
        | _ => none
      | _, _ => none
    | none => none
  | _ => none

def minMaxA (max_ : Bool) (args : List AV) : Option AV :=
  match args with
  | [.lit (.int k x), .lit (.int _ y)] => some (.lit (.int k (if max_ then (if y > x then y else x) else (if y < x then y else x))))
  | _ => none

/-- Keys of maps: integers and strings. -/
def keyEq (x y : AV) : Option Bool :=
  match x, y with
  | .lit (.int k a), .lit (.int k' b) => if k = k' then some (a == b) else none
  | .lit (.string a), .lit (.string b) => some (a == b)
  | _, _ => none

def findA (k : AV) : List (AV × AV) → Option (Option AV)
  | [] => some none
  | (k', v) :: es => match keyEq k k' with
    | some true => some (some v)
    | some false => findA k es
    | none => none

def updA (k v : AV) : List (AV × AV) → Option (List (AV × AV))
  | [] => some [(k, v)]
  | (k', v') :: es => match keyEq k k' with
    | some true => some ((k, v) :: es)
    | some false => match updA k v es with
      | some es' => some ((k', v') :: es')
      | none => none
    | none => none

def plainKey (t : TypeId) (k : AV) : Bool :=
  match P.underlying t, k with
  | some (.int _), .lit (.int _ _) | some .string, .lit (.string _) => true
  | _, _ => false

def lookupA (t : TypeId) (m k : AV) (ok : Bool) (h : Heap) : Option AV :=
  match P.underlying t with
  | some (.map key elem) => if !plainKey P key k then none else
    match (match m with
      | .lit (.map none) => some []
      | .map b => match h.get b with
        | some (.map es) => some es
        | _ => none
      | _ => none : Option (List (AV × AV))) with
    | some es => match findA k es with
      | some (some v) => some (if ok then .tup [v, .lit (.bool true)] else v)
      | some none => match zeroP P elem with
        | some z => some (if ok then .tup [ofVal z, .lit (.bool false)] else ofVal z)
        | none => none
      | none => none
    | none => none
  | _ => none

def mapUpdateA (t : TypeId) (m k v : AV) (h : Heap) : Option Heap :=
  match P.underlying t with
  | some (.map key _) => if !plainKey P key k then none else
    match m with
    | .map b => match h.get b with
      | some (.map es) => match updA k v es with
        | some es' => some (h.set b (.map es'))
        | none => none
      | _ => none
    | _ => none
  | _ => none

def typeAssertA (x : AV) (asserted : TypeId) (ok : Bool) : Option AV :=
  match P.underlying asserted with
  | some (.interface want) => match x with
    | .ifc t _ => match P.info? t with
      | some i => match Instr.missingMethod want i.methods with
        | none => some (if ok then .tup [x, .lit (.bool true)] else x)
        | some _ => if ok then (zeroP P asserted).map fun z => .tup [ofVal z, .lit (.bool false)] else none
      | none => none
    | .lit .nilIface => if ok then (zeroP P asserted).map fun z => .tup [ofVal z, .lit (.bool false)] else none
    | _ => none
  | some _ => match x with
    | .ifc t v => if t = asserted then some (if ok then .tup [v, .lit (.bool true)] else v)
      else if ok then (zeroP P asserted).map fun z => .tup [ofVal z, .lit (.bool false)] else none
    | .lit .nilIface => if ok then (zeroP P asserted).map fun z => .tup [ofVal z, .lit (.bool false)] else none
    | _ => none
  | none => none

def isIface (t : TypeId) : Bool :=
  match P.underlying t with
  | some (.interface _) => true
  | _ => false

/-- What an operation comes to. -/
inductive R where
  | val (v : AV) (h : Heap)
  | enter (f : FuncId) (args : List AV)
  | round (b : Key) (args : List AV)

def pv (h : Heap) : Option AV → Option R
  | some v => some (.val v h)
  | none => none
def pvh : Option (AV × Heap) → Option R
  | some (v, h) => some (.val v h)
  | none => none
def ph : Option Heap → Option R
  | some h => some (.val undefA h)
  | none => none

def enterA (f : FuncId) (args : List AV) : Option R :=
  match P.funcs[f]? with
  | some fn => if fn.name == "runtime.NumGoroutine" then none else if fn.body.isNone then none else some (.enter f args)
  | none => none

def callA (f : AV) (args : List AV) : Option R :=
  match f with
  | .fn (.func g) first captured => enterA P g (first ++ args ++ captured)
  | .yld b => some (.round b args)
  | _ => none

def builtinA (b : Builtin) (argTypes : Array TypeId) (args : List AV) (h : Heap) : Option R :=
  match b with
  | .append => pvh (appendA P argTypes args h)
  | .copy => pvh (copyA P argTypes args h)
  | .len => pv h (lenOpA P argTypes args h)
  | .max => pv h (minMaxA true args)
  | .min => pv h (minMaxA false args)
  | _ => none

def isCst : Operand → Bool
  | .const _ => true
  | _ => false

def evalOp (ρ : Operand → AV) (o : Oper) (h : Heap) : Option R :=
  match o.op with
  | .move x => some (.val (ρ x) h)
  | .assign x => some (.val (ρ x) h)
  | .pick c a b => match ρ c with
    | .lit (.bool t) => some (.val (if t then ρ a else ρ b) h)
    | _ => none
  | .alloc t => match zeroP P t with
    | some z => some (.val (.ptr h.nx 0) (h.new (.cells (z.cells.toList.map AV.lit) false)))
    | none => none
  | .box _ x => some (.val (.ptr h.nx 0) (h.new (.cells (ρ x).cells false)))
  | .build t parts => pv h (buildA P t (parts.toList.map fun p => (p.1, ρ p.2)))
  | .buildSlice t len parts => pvh (buildSliceA P t len (parts.toList.map fun p => (p.1, ρ p.2)) h)
  | .load t a => match ρ a with
    | .ptr b off => pv h (loadA P t b off h)
    | _ => none
  | .store t a x => match ρ a with
    | .ptr b off => ph (storeA P t b off (ρ x) h)
    | _ => none
  | .nilCheck x => match ρ x with
    | .ptr b off => some (.val (.ptr b off) h)
    | .fn (.func f) a b => some (.val (.fn (.func f) a b) h)
    | .yld b => some (.val (.yld b) h)
    | _ => none
  | .binOp op t x y _ => pv h (binA P op t (isCst x || isCst y) (ρ x) (ρ y))
  | .unOp op _ x => pv h (unA op (ρ x))
  | .convert src dst x => pv h (convA P src dst (ρ x))
  | .makeInterface t x => if isIface P t || (P.underlying t).isNone then none else some (.val (.ifc t (ρ x)) h)
  | .makeFunc fn first captured => some (.val (.fn fn (first.toList.map ρ) (captured.toList.map ρ)) h)
  | .makeMap _ none => some (.val (.map h.nx) (h.new (.map [])))
  | .makeSlice t l c => pvh (makeSliceA P t (ρ l) (ρ c) h)
  | .slice t x lo hi mx => pv h (sliceA P t (ρ x) (lo.map ρ) (hi.map ρ) (mx.map ρ) h)
  | .fieldAddr s x f => pv h (fieldAddrA P s (ρ x) f)
  | .field t x f => pv h (fieldA P t (ρ x) f)
  | .indexAddr t x ix => pv h (indexAddrA P t (ρ x) (ρ ix))
  | .index t x ix => pv h (indexA P t (ρ x) (ρ ix))
  | .lookup t x ix ok => pv h (lookupA P t (ρ x) (ρ ix) ok h)
  | .mapUpdate t m k x => ph (mapUpdateA P t (ρ m) (ρ k) (ρ x) h)
  | .typeAssert x _ t ok => pv h (typeAssertA P (ρ x) t ok)
  | .extract x i => match ρ x with
    | .tup l => pv h (nthL l i)
    | _ => none
  | .call c => match c.callee with
    | .value f => callA P (ρ f) (c.args.toList.map ρ)
    | .builtin b => builtinA P b c.argTypes (c.args.toList.map ρ) h
    | .invoke _ _ => none
  | _ => none

/-- The guard of an operation, by what the slots hold. -/
def wantedA (ops : Array Oper) (o : Oper) (ρ : Operand → AV) : Bool :=
  match o.guard with
  | none => true
  | some (j, b) => match (ops[j]?).bind (·.dst) with
    | some t => match ρ (.tmp t) with
      | .lit (.bool c) => c == b
      | _ => false
    | none => false

end ops

/-! ### Drawn regions: an order to evaluate in, and what is checked of it -/

/-- How an operation stands to its neighbours: 0: of its operands alone; 1: reads memory, or makes a block; 2: all else. -/
def rank : Op → Nat
  | .move _ | .assign _ | .pick .. | .build .. | .nilCheck _ | .binOp .. | .unOp .. | .convert .. | .makeInterface .. | .makeFunc .. | .fieldAddr .. | .field .. | .indexAddr .. | .index .. | .typeAssert .. | .extract .. => 0
  | .load .. | .lookup .. | .slice .. | .alloc _ | .box .. | .buildSlice .. | .makeSlice .. | .makeMap .. => 1
  | .call c => match c.callee with
    | .builtin .len => 1
    | .builtin .max | .builtin .min => 0
    | _ => 2
  | _ => 2

/-- Does an operation make a block? -/
def makes : Op → Bool
  | .alloc _ | .box .. | .buildSlice .. | .makeSlice .. | .makeMap .. => true
  | _ => false

def readyAt (ops : Array Oper) (bef : Array Nat) (done : Nat) (quiet : Bool) (i : Nat) : Bool :=
  !done.testBit i && (bef.getD i 0 &&& done) == bef.getD i 0 && (match ops[i]? with
    | some o => if quiet then rank o.op != 2 else rank o.op == 2
    | none => false)

def planGo (ops : Array Oper) (bef : Array Nat) : Nat → Nat → List Nat
  | 0, _ => []
  | fuel + 1, done =>
    match (List.range ops.size).find? (readyAt ops bef done true) with
    | some i => i :: planGo ops bef fuel (done ||| 2 ^ i)
    | none => match (List.range ops.size).find? (readyAt ops bef done false) with
      | some i => i :: planGo ops bef fuel (done ||| 2 ^ i)
      | none => []

/-- The slots that an operation looks at. -/
def looks (ops : Array Oper) (o : Oper) : List Tmp :=
  (o.op.operands.toList.filterMap fun | .tmp t => some t | _ => none) ++
  (match o.guard with
   | some (j, _) => match (ops[j]?).bind (·.dst) with
     | some t => [t]
     | none => []
   | none => [])

/-- i is an operation that writes slot t. -/
def writes (ops : Array Oper) (i : Nat) (t : Tmp) : Bool := (ops[i]?).bind (·.dst) == some t

/-- Does i write a slot, and j stands to it as it should: j writes another one; where j looks at it, j stands behind i; or j is of its operands alone, and i stands behind j, or is j. -/
def slotOk (ops : Array Oper) (bef : Array Nat) (i j : Nat) : Bool :=
  match (ops[i]?).bind (·.dst) with
  | some t => (i == j || !writes ops j t) && (match ops[j]? with
    | some o => !(looks ops o).contains t || (i != j && (bef.getD j 0).testBit i) || ((i == j || (bef.getD i 0).testBit j) && Nat.beq (rank o.op) 0)
    | none => true)
  | none => true

/-- Behind a loud operation i stands in the plan only what is behind it. -/
def loudOk (ops : Array Oper) (bef : Array Nat) (plan : List Nat) (i j : Nat) : Bool :=
  match ops[i]? with
  | some o => !Nat.beq (rank o.op) 2 || i == j || decide (plan.idxOf j < plan.idxOf i) || (bef.getD j 0).testBit i
  | none => true

/-- The look at a plan: each operation once, behind all that it is behind; slots; loud operations. -/
def planOk (ops : Array Oper) (bef : Array Nat) (plan : List Nat) : Bool :=
  let n := ops.size
  Nat.beq plan.length n && plan.all (fun i => Nat.blt i n) && decide plan.Nodup &&
  (List.range n).all (fun i => Nat.blt (bef.getD i 0) (2 ^ n) && (List.range n).all fun j =>
    (!(bef.getD i 0).testBit j || decide (plan.idxOf j < plan.idxOf i)) && slotOk ops bef i j && loudOk ops bef plan i j)

def planOf (ops : Array Oper) : Option (List Nat) :=
  let bef := Region.before ops
  let plan := planGo ops bef ops.size 0
  if planOk ops bef plan then some plan else none

/-! ### Machines -/

inductive AItem where
  | code (c : Code)
  | inBlock (id : Nat)
  | inLoop (c : Code)
  | inScope (c : Code)
  | inReg (ops : Array Oper) (l : List Nat)
  | draw (ops : Array Oper) (plan : List Nat) (seen : List Nat) (T0 : Tr AV)
  | inRF (b : Key)
  | endRF (b : Key)
  | beginRound
  deriving Inhabited

/-- A frame. `n`: how many slots it has. -/
structure AFr where
  fn : FuncId
  n : Nat
  T : Tr AV
  todo : List AItem
  defers : List Key
  ret : Bool
  round : Option Key
  deriving Inhabited

structure AM where
  fr : AFr
  cs : List AFr
  h : Heap
  deriving Inhabited

/-- Values that are the same, by their text. -/
def litEqb : Value → Value → Bool
  | .bool a, .bool b => a == b
  | .int k a, .int k' b => decide (k = k') && a == b
  | .string a, .string b => a == b
  | .pointer none, .pointer none => true
  | .slice none a b, .slice none c d => a == c && b == d
  | .map none, .map none => true
  | .nilFunc, .nilFunc => true
  | .nilIface, .nilIface => true
  | _, _ => false

mutual
def AV.eqb : AV → AV → Bool
  | .lit a, .lit b => litEqb a b
  | .ptr a i, .ptr b j => a.eqb b && Nat.beq i j
  | .slc a i n c z, .slc b j m d y => a.eqb b && Nat.beq i j && Nat.beq n m && c == d && Nat.beq z y
  | .map a, .map b => a.eqb b
  | .fn f a b, .fn g c d => decide (f = g) && eqbL a c && eqbL b d
  | .yld a, .yld b => a.eqb b
  | .ifc t a, .ifc u b => Nat.beq t u && a.eqb b
  | .agg a, .agg b => eqbL a b
  | .tup a, .tup b => eqbL a b
  | _, _ => false
def eqbL : List AV → List AV → Bool
  | [], [] => true
  | a :: as, b :: bs => a.eqb b && eqbL as bs
  | _, _ => false
end

/-- Put a slot. -/
def putT (n : Nat) (T : Tr AV) (d : Option Tmp) (v : AV) : Option (Tr AV) :=
  match d with
  | some t => if Nat.blt t n then some (T.put (Key.ofNat t) (some v)) else none
  | none => some T

section step
variable (P : Program)

/-- Behind a loud operation each look at memory that need not be ahead of it still answers the same. -/
def stable (ops : Array Oper) (i : Nat) (T : Tr AV) (h : Heap) (seen : List Nat) : Bool :=
  seen.all fun q => ((Region.before ops).getD i 0).testBit q || (match ops[q]? with
    | some o => match evalOp P (ev P T) o h with
      | some (.val v _) => match o.dst with
        | some t => match T.get (Key.ofNat t) with
          | some u => u.eqb v
          | none => false
        | none => true
      | _ => false
    | none => false)

def finish (fr : AFr) (v : AV) (h : Heap) : Option AFr :=
  match fr.todo with
  | .inReg ops (i :: rest) :: k => match putT fr.n fr.T ((ops[i]?).bind (·.dst)) v with
    | some T => some { fr with T, todo := .inReg ops rest :: k }
    | none => none
  | .draw ops (i :: plan) seen T0 :: k => match putT fr.n fr.T ((ops[i]?).bind (·.dst)) v with
    | some T => if stable P ops i T h seen then some { fr with T, todo := .draw ops plan seen T0 :: k } else none
    | none => none
  | .inRF b :: k => some { fr with todo := .endRF b :: k }
  | _ => none

def argsT : Nat → List AV → Tr AV
  | _, [] => .leaf
  | i, v :: l => (argsT (i + 1) l).put (Key.ofNat i) (some v)

def enterFr (f : FuncId) (args : List AV) : Option AFr :=
  match P.funcs[f]? with
  | some fn => match fn.body with
    | some c => some { fn := f, n := Nat.max args.length fn.ntmps, T := argsT 0 args, todo := [.code c], defers := [], ret := false, round := none }
    | none => none
  | none => none

def putParams (n : Nat) : List Tmp → List AV → Tr AV → Option (Tr AV)
  | [], [], T => some T
  | t :: ts, v :: vs, T => if Nat.blt t n then putParams n ts vs (T.put (Key.ofNat t) (some v)) else none
  | _, _, _ => none

def roundFr (b : Key) (args : List AV) (h : Heap) : Option AFr :=
  match h.get b with
  | some (.loop _ _ fn n T params assign body _) => match putParams n params args T with
    | some T => some { fn, n, T, todo := [.code assign, .beginRound, .code body], defers := [], ret := false, round := some b }
    | none => none
  | _ => none

/-- The state behind an operation of the frame's own. -/
def applyA (fr : AFr) (cs : List AFr) (h : Heap) : Option R → Option AM
  | some (.val v h') => match finish P fr v h' with
    | some fr => some { fr, cs, h := h' }
    | none => none
  | some (.enter f args) => match enterFr P f args with
    | some g => some { fr := g, cs := fr :: cs, h }
    | none => none
  | some (.round b args) => match roundFr b args h with
    | some g => some { fr := g, cs := fr :: cs, h }
    | none => none
  | none => none

def endRoundA (b : Key) (jump : Option Code) (h : Heap) : Option (AV × Heap) :=
  match h.get b with
  | some (.loop _ _ fn n T params assign body defers) =>
    some (.lit (.bool jump.isNone), h.set b (.loop (if jump.isNone then .ready else .done) jump fn n T params assign body defers))
  | _ => none

def leaveA (fr : AFr) (cs : List AFr) (h : Heap) (jump : Option Code) : Option AM :=
  match fr.round with
  | none => match jump with
    | none | some .ret => some { fr := { fr with ret := true }, cs, h }
    | _ => none
  | some b => match endRoundA b jump h with
    | some (v, h) => match cs with
      | c :: cs => match finish P c v h with
        | some c => some { fr := c, cs, h }
        | none => none
      | [] => none
    | none => none

def exitToA (id : Nat) : List AItem → Option (List AItem)
  | .inBlock id' :: k => if id' == id then some k else exitToA id k
  | _ :: k => exitToA id k
  | [] => none

def gotoInA (l : Nat) : List AItem → Option (List AItem)
  | .inScope body :: k => match findLabel body l with
    | some rest => some (.code rest :: .inScope body :: k)
    | none => gotoInA l k
  | _ :: k => gotoInA l k
  | [] => none

def resA (T : Tr AV) (h : Heap) : ResultVar → Option AV
  | .tmp t => some ((T.get (Key.ofNat t)).getD undefA)
  | .cell a t => match (T.get (Key.ofNat a)).getD undefA with
    | .ptr b off => loadA P t b off h
    | _ => none

def resultsA (fn : Func) (T : Tr AV) (h : Heap) : Option AV :=
  match fn.results.toList.mapM (resA P T h) with
  | some [v] => some v
  | some vs => some (.tup vs)
  | none => none

def enterLoopA (fr : AFr) (params : List Tmp) (assign body : Code) (h : Heap) : Option (Key × List Key × Heap) :=
  match fr.round with
  | some l => match h.get l with
    | some (.loop _ _ _ _ _ _ _ _ d) => some (h.nx, [], h.new (.loop .ready none fr.fn fr.n fr.T params assign body d))
    | _ => none
  | none =>
    let h1 := h.new (.defs true)
    some (h1.nx, [h.nx], h1.new (.loop .ready none fr.fn fr.n fr.T params assign body h.nx))

def jumpItems : Option Code → List AItem → List AItem
  | some c, k => .code c :: k
  | none, k => k

def astep (s : AM) : Option AM :=
  let fr := s.fr
  let cs := s.cs
  let h := s.h
  if fr.ret then
    match fr.defers with
    | b :: ds => match h.get b with
      | some (.defs true) => some { fr := { fr with defers := ds }, cs, h := h.set b (.defs false) }
      | _ => none
    | [] => match cs with
      | c :: cs => match P.funcs[fr.fn]? with
        | some fn => match resultsA P fn fr.T h with
          | some v => match finish P c v h with
            | some c => some { fr := c, cs, h }
            | none => none
          | none => none
        | none => none
      | [] => none
  else
  match fr.todo with
  | [] => leaveA P fr cs h none
  | .inBlock _ :: k => some { fr := { fr with todo := k }, cs, h }
  | .inScope _ :: k => some { fr := { fr with todo := k }, cs, h }
  | .inLoop c :: k => some { fr := { fr with todo := .code c :: .inLoop c :: k }, cs, h }
  | .inReg ops [] :: k => some { fr := { fr with todo := k }, cs, h }
  | .inReg ops (i :: _) :: _ => match ops[i]? with
    | some o => if wantedA ops o (ev P fr.T) then applyA P fr cs h (evalOp P (ev P fr.T) o h)
      else match finish P fr undefA h with
        | some fr => some { fr, cs, h }
        | none => none
    | none => none
  | .draw ops [] _ _ :: k => some { fr := { fr with todo := k }, cs, h }
  | .draw ops (i :: plan) seen T0 :: k => match ops[i]? with
    | some o =>
      if wantedA ops o (ev P fr.T) then
        if Nat.beq (rank o.op) 2 then applyA P fr cs h (evalOp P (ev P fr.T) o h)
        else match evalOp P (ev P fr.T) o h with
          | some (.val v h') => match putT fr.n fr.T o.dst v with
            | some T => some { fr := { fr with T, todo := .draw ops plan (if Nat.beq (rank o.op) 1 && !makes o.op then i :: seen else seen) T0 :: k }, cs, h := h' }
            | none => none
          | _ => none
      else match putT fr.n fr.T o.dst undefA with
        | some T => some { fr := { fr with T, todo := .draw ops plan seen T0 :: k }, cs, h }
        | none => none
    | none => none
  | .inRF _ :: _ => none
  | .endRF b :: k => match h.get b with
    | some (.loop st pending fn n T params assign body defers) => match st with
      | .busy => none
      | _ => some { fr := { fr with todo := jumpItems pending k }, cs,
                    h := h.set b (.loop .exhausted pending fn n T params assign body defers) }
    | _ => none
  | .beginRound :: k => match fr.round with
    | some b => match h.get b with
      | some (.loop .ready pending fn n T params assign body defers) =>
        some { fr := { fr with todo := k }, cs, h := h.set b (.loop .busy pending fn n T params assign body defers) }
      | _ => none
    | none => none
  | .code c :: k => match c with
    | .skip => some { fr := { fr with todo := k }, cs, h }
    | .label _ => some { fr := { fr with todo := k }, cs, h }
    | .seq a b => some { fr := { fr with todo := .code a :: .code b :: k }, cs, h }
    | .cond c a b => match ev P fr.T c with
      | .lit (.bool t) => some { fr := { fr with todo := .code (if t then a else b) :: k }, cs, h }
      | _ => none
    | .block id c => some { fr := { fr with todo := .code c :: .inBlock id :: k }, cs, h }
    | .loop c => some { fr := { fr with todo := .code c :: .inLoop c :: k }, cs, h }
    | .scope c => some { fr := { fr with todo := .code c :: .inScope c :: k }, cs, h }
    | .exit id => match exitToA id k with
      | some k' => some { fr := { fr with todo := k' }, cs, h }
      | none => leaveA P fr cs h (some (.exit id))
    | .goto l => match gotoInA l k with
      | some k' => some { fr := { fr with todo := k' }, cs, h }
      | none => leaveA P fr cs h (some (.goto l))
    | .ret => leaveA P fr cs h (some .ret)
    | .region _ ops false => some { fr := { fr with todo := .inReg ops (List.range ops.size) :: k }, cs, h }
    | .region _ ops true => match planOf ops with
      | some plan => some { fr := { fr with todo := .draw ops plan [] fr.T :: k }, cs, h }
      | none => none
    | .rangeFunc f params assign body => match enterLoopA fr params.toList assign body h with
      | some (l, mark, h') => match callA P (ev P fr.T f) [.yld l] with
        | some (.enter g args) => applyA P { fr with todo := .inRF l :: k, defers := mark ++ fr.defers } cs h' (some (.enter g args))
        | _ => none
      | none => none
    | .refuse _ => none

/-- n steps. -/
def arun (n : Nat) (s : AM) : Option AM :=
  @Nat.rec (fun _ => AM → Option AM) (fun s => some s) (fun _ ih s => @Option.casesOn AM (fun _ => Option AM) (astep P s) none ih) n s
end step
end
end Go.Ev
