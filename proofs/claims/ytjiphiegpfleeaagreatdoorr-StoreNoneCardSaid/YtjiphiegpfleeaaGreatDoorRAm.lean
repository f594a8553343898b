import GoSem.Step
import Derived.Calls
namespace Go.AM

/-! tries keyed by numbers -/
inductive Trie (α : Type) where
  | leaf
  | node (l : Trie α) (v : Option α) (r : Trie α)
  deriving Inhabited

def Trie.get {α : Type} : Trie α → Nat → Option α
  | .leaf, _ => none
  | .node l v r, n =>
    match n with
    | 0 => v
    | m + 1 => bif Nat.beq (Nat.mod m 2) 0 then l.get (Nat.div m 2) else r.get (Nat.div m 2)

def Trie.sing {α : Type} (a : α) : Nat → Nat → Trie α
  | 0, _ => .leaf
  | k + 1, n =>
    match n with
    | 0 => .node .leaf (some a) .leaf
    | m + 1 => bif Nat.beq (Nat.mod m 2) 0 then .node (Trie.sing a k (Nat.div m 2)) none .leaf else .node .leaf none (Trie.sing a k (Nat.div m 2))

def Trie.set {α : Type} (a : α) : Trie α → Nat → Trie α
  | .leaf, n => .sing a (n + 1) n
  | .node l v r, n =>
    match n with
    | 0 => .node l (some a) r
    | m + 1 => bif Nat.beq (Nat.mod m 2) 0 then .node (Trie.set a l (Nat.div m 2)) v r else .node l v (Trie.set a r (Nat.div m 2))

def Trie.fill {α : Type} (t : Trie α) : Nat → List α → Trie α
  | _, [] => t
  | i, a :: l => Trie.fill (t.set a i) (i + 1) l

/-! abstract memory -/
inductive AObj where
  | var (vs : List Value)
  | row (vs : List Value) (k fam ver : Nat)
  | map (es : List (Value × Value))
  deriving Inhabited

structure AHeap where
  objs : Trie AObj
  next : Nat
  fams : Trie (Nat × Nat)   -- version, tip
  deriving Inhabited

def AHeap.fam (h : AHeap) (f : Nat) : Nat × Nat :=
  match h.fams.get f with
  | some x => x
  | none => (0, f)

def AHeap.new (h : AHeap) (o : AObj) : Nat × AHeap := (h.next, ⟨h.objs.set o h.next, h.next + 1, h.fams⟩)
def AHeap.newRow (h : AHeap) (k : Nat) (vs : List Value) : Nat × AHeap := h.new (.row vs k h.next 0)

/-- the cells behind an id, if they may be read -/
def AHeap.cells (h : AHeap) (b : Nat) : Option (List Value) :=
  match h.objs.get b with
  | some (.var vs) => some vs
  | some (.row vs _ f v) => bif Nat.beq v (h.fam f).1 then some vs else none
  | _ => none

def nth {α : Type} : List α → Nat → Option α
  | [], _ => none
  | a :: l, n => match n with | 0 => some a | m + 1 => nth l m

/-- n elements from off on -/
def seg {α : Type} (l : List α) (off n : Nat) : Option (List α) :=
  let r := (l.drop off).take n
  bif Nat.beq r.length n then some r else none

/-- put over -/
def over {α : Type} : List α → Nat → List α → Option (List α)
  | l, _, [] => some l
  | [], _, _ :: _ => none
  | a :: l, 0, b :: m => match over l 0 m with | some r => some (b :: r) | none => none
  | a :: l, n + 1, m => match over l n m with | some r => some (a :: r) | none => none

def scalarCell : Value → Bool
  | .agg _ | .tuple _ => false
  | _ => true

def AHeap.write (h : AHeap) (b off : Nat) (xs : List Value) : Option AHeap :=
  bif xs.all scalarCell then
  match h.objs.get b with
  | some (.var vs) => match over vs off xs with
    | some vs => some ⟨h.objs.set (.var vs) b, h.next, h.fams⟩
    | none => none
  | some (.row vs k f v) =>
    bif Nat.beq v (h.fam f).1 then
      match over vs off xs with
      | some vs => match h.fams.get f with
        | none => some ⟨h.objs.set (.row vs k f v) b, h.next, h.fams⟩
        | some (v, _) => some ⟨h.objs.set (.row vs k f (v + 1)) b, h.next, h.fams.set (v + 1, b) f⟩
      | none => none
    else none
  | _ => none
  else none

def baseVal : Value → Bool
  | .bool _ | .int _ _ | .float _ _ | .string _ | .pointer none | .slice none 0 0 | .map none | .nilFunc | .nilIface => true
  | _ => false
def constOk : Value → Bool
  | .agg cs => cs.toList.all baseVal
  | v => baseVal v

/-! tables -/
/-- functions without a body -/
inductive Ext where
  | clone | indexByte | countByte
structure Tab where
  nglob : Nat
  ext : Nat → Option Ext
  und : Nat → Option TypeDesc
  info : Nat → Option TypeInfo
  func : Nat → Option Func
  flat : Nat → Option (List TypeDesc)     -- structs that are compared cell by cell: their cells
  summ : Nat → Option (List Value → AHeap → Option (Value × AHeap))

variable (T : Tab)

def Tab.size (t : Nat) : Option Nat := match T.info t with | some i => some i.size | none => none
def Tab.zero (t : Nat) : Option Value := match T.info t with
  | some i => match i.zero with
    | some z => bif constOk z then some z else none
    | none => none
  | none => none
def vcells : Value → List Value
  | .agg cs => cs.toList
  | v => [v]
def Tab.isAgg (t : Nat) : Option Bool := match T.und t with
  | some (.struct _) | some (.array _ _) => some true
  | some _ => some false
  | none => none

def rept {α : Type} (l : List α) : Nat → List α
  | 0 => []
  | n + 1 => l ++ rept l n

abbrev R (α : Type) := Option (α × AHeap)
abbrev Env := Nat → Option Value

def ev (e : Env) : Operand → Option Value
  | .tmp t => e t
  | .const v => bif constOk v then some v else none
  | .global g => bif Nat.blt g T.nglob then some (.pointer (some ⟨g, 0, none⟩)) else none
  | .func f => some (.func (.func f) #[] #[])

def loadA (h : AHeap) (t : Nat) (b off : Nat) : Option Value :=
  match h.cells b, T.isAgg t with
  | some vs, some true => match T.size t with
    | some n => match seg vs off n with
      | some l => some (.agg l.toArray)
      | none => none
    | none => none
  | some vs, some false => nth vs off
  | _, _ => none

def partA (t : Nat) (cs : List Value) (off : Nat) : Option Value :=
  match T.isAgg t with
  | some true => match T.size t with
    | some n => match seg cs off n with
      | some l => some (.agg l.toArray)
      | none => none
    | none => none
  | some false => nth cs off
  | none => none

def fieldOff (fs : List Field) (i : Nat) : Option (Nat × Nat) :=
  match nth fs i with
  | some f => some (f.offset, f.type)
  | none => none

def fillA (place : Nat → Option (Nat × Nat)) : List Value → List (Nat × Value) → Option (List Value)
  | cells, [] => some cells
  | cells, (i, v) :: rest =>
    match place i with
    | some (off, size) =>
      bif Nat.beq (vcells v).length size && Nat.ble (off + size) cells.length then
        match over cells off (vcells v) with
        | some cells => fillA place cells rest
        | none => none
      else none
    | none => none

def parts (e : Env) : List (Nat × Operand) → Option (List (Nat × Value))
  | [] => some []
  | (i, x) :: l => match ev T e x, parts e l with
    | some v, some r => some ((i, v) :: r)
    | _, _ => none

def evs (e : Env) : List Operand → Option (List Value)
  | [] => some []
  | x :: l => match ev T e x, evs e l with
    | some v, some r => some (v :: r)
    | _, _ => none

def fieldPlace (fs : List Field) (i : Nat) : Option (Nat × Nat) :=
  match nth fs i with
  | some f => match T.size f.type with | some n => some (f.offset, n) | none => none
  | none => none

def placesA : List Field → Option (List (Nat × Nat))
  | [] => some []
  | f :: l => match T.size f.type, placesA l with
    | some n, some r => some ((f.offset, n) :: r)
    | _, _ => none

def buildA (t : Nat) (ps : List (Nat × Value)) : Option Value :=
  match T.zero t, T.und t with
  | some z, some (.struct fs) => match placesA T fs.toList with
    | some pl => match fillA (nth pl) (vcells z) ps with
      | some l => some (.agg l.toArray)
      | none => none
    | none => none
  | some z, some (.array _ e) => match T.size e with
    | some n => match fillA (fun i => some (i * n, n)) (vcells z) ps with
      | some l => some (.agg l.toArray)
      | none => none
    | none => none
  | _, _ => none

/-- n zero elements -/
def zeroRow (el n : Nat) : Option (List Value) :=
  match T.zero el, T.size el with
  | some z, some k => bif Nat.beq (vcells z).length k then some (rept (vcells z) n) else none
  | _, _ => none

def strOf (l : List UInt8) : Value := .string ⟨l.toArray⟩
def strBytes (s : ByteArray) : List UInt8 := s.data.toList

def scalarEq : Value → Value → Option Bool
  | .int k a, .int j b => bif decide (k = j) then some (a == b) else none
  | .string a, .string b => some (strBytes a == strBytes b)
  | .bool a, .bool b => some (a == b)
  | _, _ => none

def listEq : List Value → List Value → Option Bool
  | [], [] => some true
  | a :: l, b :: m => match scalarEq a b with
    | some true => listEq l m
    | some false => match listEq l m with | some _ => some false | none => none
    | none => none
  | _, _ => none

def cellIs : TypeDesc → Value → Bool
  | .int k, .int j _ => decide (k = j)
  | .string, .string _ => true
  | .bool, .bool _ => true
  | _, _ => false
def cellsAre : List TypeDesc → List Value → Bool
  | [], [] => true
  | d :: ds, v :: vs => cellIs d v && cellsAre ds vs
  | _, _ => false

def isConst : Operand → Bool
  | .const _ => true
  | _ => false
/-- equality -/
def eqA (cst : Bool) (t : Nat) (x y : Value) : Option Bool :=
  match T.und t, x, y with
  | some .bool, .bool a, .bool b => some (a == b)
  | some (.pointer _), .pointer none, .pointer b => some b.isNone
  | some (.pointer _), .pointer (some _), .pointer none => some false
  | some (.interface _), .nilIface, .iface _ _ => some false
  | some (.interface _), .iface _ _, .nilIface => some false
  | some (.interface _), .nilIface, .nilIface => bif cst then some true else none
  | some (.slice _), .slice none _ _, .slice b _ _ => some b.isNone
  | some (.slice _), .slice (some _) _ _, .slice none _ _ => some false
  | some (.map _ _), .map none, .map b => some b.isNone
  | some (.map _ _), .map (some _), .map none => some false
  | some (.func _ _ _), .nilFunc, .nilFunc => some true
  | some (.func _ _ _), .nilFunc, .func _ _ _ => some false
  | some (.func _ _ _), .func _ _ _, .nilFunc => some false
  | some (.struct _), .agg a, .agg b => match T.flat t with
    | some ds => bif cellsAre ds a.toList && cellsAre ds b.toList then listEq a.toList b.toList else none
    | none => none
  | _, _, _ => none


def strBin (op : BinOp) (a b : ByteArray) : Option Value :=
  match op with
  | .add => bif Nat.blt (a.size + b.size) 4294967296 then some (strOf (strBytes a ++ strBytes b)) else none
  | .eql => some (.bool (strBytes a == strBytes b))
  | .neq => some (.bool (!(strBytes a == strBytes b)))
  | .lss => some (.bool (Op.bytesLess (strBytes a) (strBytes b)))
  | .leq => some (.bool (Op.bytesLess (strBytes a) (strBytes b) || strBytes a == strBytes b))
  | .gtr => some (.bool (!(Op.bytesLess (strBytes a) (strBytes b) || strBytes a == strBytes b)))
  | .geq => some (.bool (!Op.bytesLess (strBytes a) (strBytes b)))
  | _ => none

def intBin (op : BinOp) (k : IntKind) (a b : Int) : Option Value :=
  match op with
  | .add => some (.int k (k.wrap (a + b)))
  | .sub => some (.int k (k.wrap (a - b)))
  | .mul => some (.int k (k.wrap (a * b)))
  | .quo => bif b == 0 then none else some (.int k (k.wrap (a.tdiv b)))
  | .rem => bif b == 0 then none else some (.int k (a.tmod b))
  | .and | .or | .xor | .andNot => match (Op.intBits op k a b) with | .pure v => some v | _ => none
  | .eql => some (.bool (a == b))
  | .neq => some (.bool (a != b))
  | .lss => some (.bool (decide (a < b)))
  | .leq => some (.bool (decide (a ≤ b)))
  | .gtr => some (.bool (decide (a > b)))
  | .geq => some (.bool (decide (a ≥ b)))
  | _ => none

def binA (cst : Bool) (op : BinOp) (t : Nat) (x y : Value) : Option Value :=
  match op, x, y with
  | .shl, .int k a, .int _ b => bif decide (b < 0) then none else some (.int k (k.wrap (a * 2 ^ (min b.toNat k.bits))))
  | .shr, .int k a, .int _ b => bif decide (b < 0) then none else some (.int k (a.fdiv (2 ^ (min b.toNat k.bits))))
  | op, .int k a, .int j b => bif decide (k = j) then intBin op k a b else none
  | op, .string a, .string b => strBin op a b
  | .eql, x, y => match eqA T cst t x y with | some b => some (.bool b) | none => none
  | .neq, x, y => match eqA T cst t x y with | some b => some (.bool (!b)) | none => none
  | _, _, _ => none

def bytesOf : List Value → Option (List UInt8)
  | [] => some []
  | .int .u8 n :: l => match bytesOf l with | some r => some (n.toNat.toUInt8 :: r) | none => none
  | _ => none

def sliceCells (h : AHeap) (b off n : Nat) : Option (List Value) :=
  match h.cells b with
  | some vs => seg vs off n
  | none => none

def convA (h : AHeap) (src dst : Nat) (x : Value) : R Value :=
  match T.und src, T.und dst, x with
  | some _, some (.int k), .int _ n => some (.int k (k.wrap n), h)
  | some .string, some .string, .string s => some (.string s, h)
  | some .string, some (.slice e), .string s =>
    match T.und e with
    | some (.int .u8) =>
      let (id, h) := h.newRow 1 ((strBytes s).map fun b => .int .u8 b.toNat)
      some (.slice (some ⟨id, 0, none⟩) s.size s.size, h)
    | _ => none
  | some (.slice e), some .string, .slice a n _ =>
    match T.und e, a with
    | some (.int .u8), none => some (strOf [], h)
    | some (.int .u8), some a => match sliceCells h a.block a.off n with
      | some l => match bytesOf l with
        | some bs => some (strOf bs, h)
        | none => none
      | none => none
    | _, _ => none
  | _, _, _ => none

/-- the bounds of a slice expression -/
def bound (x : Value) (y : Nat) : Option Nat :=
  match x with
  | .int _ i => bif decide (0 ≤ i) && decide (i ≤ y) then some i.toNat else none
  | _ => none
def obound (x : Option Value) (y d : Nat) : Option Nat := match x with | some v => bound v y | none => some d

/-- may a slice of elements of k cells lie in an object? -/
def fitsK (h : AHeap) (b k : Nat) : Bool :=
  match h.objs.get b with
  | some (.row _ k' _ _) => Nat.beq k' k
  | some (.var _) => true
  | _ => false
def isVar (h : AHeap) (b : Nat) : Bool :=
  match h.objs.get b with
  | some (.var _) => true
  | _ => false

def sliceA (h0 : AHeap) (t : Nat) (x : Value) (lo hi mx : Option Value) : Option Value :=
  match T.und t, x with
  | some .string, .string s => match mx with
    | some _ => none
    | none => match obound hi s.size s.size with
      | some h => match obound lo h 0 with
        | some l => some (strOf (((strBytes s).drop l).take (h - l)))
        | none => none
      | none => none
  | some (.slice e), .slice a len cap => match mx with
    | none => match obound hi cap len with
      | some h => match obound lo h 0, T.size e with
        | some l, some k => match a with
          | none => some (.slice none 0 0)
          | some a => match a.spot with
            | some _ => some x
            | none => bif fitsK h0 a.block k then some (.slice (some ⟨a.block, a.off + l * k, none⟩) (h - l) (cap - l)) else none
        | _, _ => none
      | none => none
    | some m => match bound m cap, hi with
      | some m, some hv => match bound hv m with
        | some h => match obound lo h 0, T.size e with
          | some l, some k => match a with
            | none => some (.slice none 0 0)
            | some a => match a.spot with
              | some _ => some x
              | none => bif Nat.beq m 0 then some (.slice (some ⟨a.block, a.off, some 0⟩) 0 0)
                else bif fitsK h0 a.block k then some (.slice (some ⟨a.block, a.off + l * k, none⟩) (h - l) (m - l)) else none
          | _, _ => none
        | none => none
      | _, _ => none
  | some (.array n e), .pointer (some a) => match mx with
    | none => match obound hi n n with
      | some h => match obound lo h 0, T.size e with
        | some l, some k => bif isVar h0 a.block then some (.slice (some ⟨a.block, a.off + l * k, none⟩) (h - l) (n - l)) else none
        | _, _ => none
      | none => none
    | some _ => none
  | _, _ => none

/-- is a value a key of a type of integers, strings or bools? -/
def keyFits (kt : Nat) (k : Value) : Bool :=
  match T.und kt, k with
  | some (.int _), .int _ _ | some .string, .string _ | some .bool, .bool _ => true
  | _, _ => false

def findA (k : Value) : List (Value × Value) → Option (Option Value)
  | [] => some none
  | (a, v) :: l => match scalarEq k a with
    | some true => some (some v)
    | some false => findA k l
    | none => none
def putA (k v : Value) : List (Value × Value) → Option (List (Value × Value))
  | [] => some [(k, v)]
  | (a, x) :: l => match scalarEq k a with
    | some true => some ((k, v) :: l)
    | some false => match putA k v l with | some r => some ((a, x) :: r) | none => none
    | none => none
def delA (k : Value) : List (Value × Value) → Option (List (Value × Value))
  | [] => some []
  | (a, x) :: l => match scalarEq k a with
    | some true => some l
    | some false => match delA k l with | some r => some ((a, x) :: r) | none => none
    | none => none

def mapOf (h : AHeap) : Value → Option (List (Value × Value))
  | .map none => some []
  | .map (some r) => match h.objs.get r with | some (.map es) => some es | _ => none
  | _ => none

def lookupA (h : AHeap) (t : Nat) (m k : Value) (ok : Bool) : Option Value :=
  match T.und t, mapOf h m with
  | some (.map kt e), some es =>
    bif keyFits T kt k then
      match findA k es, T.zero e with
      | some (some v), _ => some (bif ok then .tuple #[v, .bool true] else v)
      | some none, some z => some (bif ok then .tuple #[z, .bool false] else z)
      | _, _ => none
    else none
  | _, _ => none

def updateA (h : AHeap) (t : Nat) (m k v : Value) : Option AHeap :=
  match T.und t, m with
  | some (.map kt _), .map (some r) => match h.objs.get r with
    | some (.map es) => bif keyFits T kt k then
        match putA k v es with
        | some es => some ⟨h.objs.set (.map es) r, h.next, h.fams⟩
        | none => none
      else none
    | _ => none
  | _, _ => none

/-- what a slice or string appends -/
def sourceCells (h : AHeap) (k : Nat) : Value → Option (Nat × List Value)
  | .string s => bif Nat.beq k 1 then some (s.size, (strBytes s).map fun b => .int .u8 b.toNat) else none
  | .slice none _ _ => some (0, [])
  | .slice (some a) n _ => match sliceCells h a.block a.off (n * k) with | some l => some (n, l) | none => none
  | _ => none

def roomy : Nat := 2 ^ 32

/-- an element's cells and bytes, where its zero has so many cells -/
def rowElem (e : Nat) : Option (Nat × Nat) :=
  match T.info e, T.zero e with
  | some i, some z => bif Nat.beq (vcells z).length i.size then some (i.size, i.bytes) else none
  | _, _ => none

/-- append, where there is room for sure, or a new row is made for sure, or either -/
def appendA (h : AHeap) (t : Nat) (s x : Value) : R Value :=
  match T.und t, s with
  | some (.slice e), .slice base len cap => match rowElem T e with
    | some (k, bytes) => match sourceCells h k x with
      | some (n, new) => bif Nat.blt ((len + n) * (bytes + 1)) roomy then match base with
        | none => bif Nat.beq n 0 then some (.slice none 0 0, h) else
              let (id, h) := h.newRow k new
              some (.slice (some ⟨id, 0, none⟩) n n, h)
        | some a =>
          bif Nat.beq n 0 then some (s, h) else
          match a.spot with
          | some _ =>
              let (id, h) := h.newRow k new
              some (.slice (some ⟨id, 0, none⟩) n n, h)
          | none =>
            bif Nat.ble (len + n) cap then
              match h.write a.block (a.off + len * k) new with
              | some h => some (.slice (some a) (len + n) cap, h)
              | none => none
            else
              match h.objs.get a.block with
              | some (.row vs k' f v) =>
                bif Nat.beq v (h.fam f).1 && Nat.beq k' k && Nat.blt 0 k && new.all scalarCell then
                  match seg vs a.off (len * k) with
                  | some old =>
                    let v' := bif Nat.beq (h.fam f).2 a.block && Nat.beq (a.off + len * k) vs.length then v else v + 1
                    some (.slice (some ⟨h.next, 0, none⟩) (len + n) (len + n), ⟨h.objs.set (.row (old ++ new) k f v') h.next, h.next + 1, h.fams.set (v', h.next) f⟩)
                  | none => none
                else none
              | _ => none
        else none
      | none => none
    | none => none
  | _, _ => none

inductive Next' where
  | value (v : Value)
  | skip
  | enter (f : Nat) (args : List Value)

def lenA (h : AHeap) (t : Nat) (x : Value) : Option Value :=
  match T.und t, x with
  | some .string, .string s => some (.int .i64 s.size)
  | some (.array n _), _ => some (.int .i64 n)
  | some (.slice _), .slice _ n _ => some (.int .i64 n)
  | some (.map _ _), m => match mapOf h m with | some es => some (.int .i64 es.length) | none => none
  | _, _ => none

def max2A : Value → Value → Option Value
  | .int k x, .int _ y => some (.int k (if y > x then y else x))
  | _, _ => none
def min2A : Value → Value → Option Value
  | .int k x, .int _ y => some (.int k (if y < x then y else x))
  | _, _ => none
def foldA (f : Value → Value → Option Value) : Value → List Value → Option Value
  | a, [] => some a
  | a, b :: l => match f a b with | some c => foldA f c l | none => none

def builtinA (h : AHeap) (b : Builtin) (ts : List Nat) (args : List Value) : R Next' :=
  match b, ts, args with
  | .len, t :: _, [x] => match lenA T h t x with | some v => some (.value v, h) | none => none
  | .append, t :: ts, [s, x] =>
    match (match ts with | u :: _ => (match T.und u with | some (.int _) => none | some _ => some () | none => none) | [] => some ()) with
    | some _ => match appendA T h t s x with | some (v, h) => some (.value v, h) | none => none
    | none => none
  | .max, _, a :: l => match foldA max2A a l with | some v => some (.value v, h) | none => none
  | .min, _, a :: l => match foldA min2A a l with | some v => some (.value v, h) | none => none
  | .delete, t :: _, [m, k] => match T.und t, m with
    | some (.map kt _), .map (some r) => match h.objs.get r with
      | some (.map es) => bif keyFits T kt k then
          match delA k es with
          | some es => some (.value (.tuple #[]), ⟨h.objs.set (.map es) r, h.next, h.fams⟩)
          | none => none
        else none
      | _ => none
    | _, _ => none
  | .clear, t :: _, [x] => match T.und t, x with
    | some (.slice e), .slice none _ _ => some (.value (.tuple #[]), h)
    | some (.slice e), .slice (some a) n _ => bif Nat.beq n 0 then some (.value (.tuple #[]), h) else
      match zeroRow T e n with
      | some z => match h.write a.block a.off z with
        | some h => some (.value (.tuple #[]), h)
        | none => none
      | none => none
    | _, _ => none
  | .copy, t :: _, [d, s] => match T.und t, d with
    | some (.slice e), .slice base dl _ => match T.size e with
      | some k => match sourceCells h k s with
        | some (sl, cs) => bif Nat.ble sl dl then
          match base with
          | none => some (.value (.int .i64 sl), h)
          | some a => bif Nat.beq sl 0 then some (.value (.int .i64 sl), h) else
            match h.write a.block a.off cs with
            | some h => some (.value (.int .i64 sl), h)
            | none => none
          else none
        | none => none
      | none => none
    | _, _ => none
  | _, _, _ => none

def countByte (c : UInt8) : List UInt8 → Nat
  | [] => 0
  | a :: l => bif a == c then countByte c l + 1 else countByte c l
def findByte (c : UInt8) : List UInt8 → Nat → Option Nat
  | [], _ => none
  | a :: l, i => bif a == c then some i else findByte c l (i + 1)

def extA (h : AHeap) (k : Ext) (args : List Value) : R Value :=
  match k, args with
  | .indexByte, [.string s, .int .u8 c] => some (.int .i64 (match findByte c.toNat.toUInt8 (strBytes s) 0 with | some i => i | none => -1), h)
  | .countByte, [.string s, .int .u8 c] => some (.int .i64 (countByte c.toNat.toUInt8 (strBytes s)), h)
  | .clone, [.iface t (.map (some r))] => match h.objs.get r with
    | some (.map es) =>
      let (id, h) := h.new (.map es)
      some (.iface t (.map (some id)), h)
    | _ => none
  | _, _ => none

def callA (h : AHeap) (f : Nat) (args : List Value) : R Next' :=
  match T.ext f with
  | some k => match extA h k args with | some (v, h) => some (.value v, h) | none => none
  | none => match T.func f with
    | some fn => match fn.body with
      | some _ => some (.enter f args, h)
      | none => none
    | none => none

def callOp (h : AHeap) (e : Env) (c : Call) : R Next' :=
  match evs T e c.args.toList with
  | none => none
  | some args =>
    match c.callee with
    | .builtin b => builtinA T h b c.argTypes.toList args
    | .value x => match ev T e x with
      | some (.func (.func f) first captured) => callA T h f (first.toList ++ args ++ captured.toList)
      | _ => none
    | .invoke r name => match ev T e r with
      | some (.iface t v) => match T.info t with
        | some i => match i.methods.find? (·.name == name) with
          | some m => bif m.path.isEmpty then
              match m.func, T.und t, v with
              | some (f, true), some (.pointer _), .pointer (some _) => callA T h f (v :: args)
              | _, _, _ => none
            else none
          | none => none
        | none => none
      | _ => none

def storeA (h : AHeap) (t : Nat) (a v : Value) : Option AHeap :=
  match a, T.size t with
  | .pointer (some a), some n => bif Nat.beq (vcells v).length n then h.write a.block a.off (vcells v) else none
  | _, _ => none

def evo (e : Env) : Option Operand → Option (Option Value)
  | none => some none
  | some x => match ev T e x with | some v => some (some v) | none => none

def unA (op : UnOp) (x : Value) : Option Value :=
  match op, x with
  | .not, .bool b => some (.bool (!b))
  | .neg, .int k n => some (.int k (k.wrap (-n)))
  | .xor, .int k n => match Op.intBits .xor k (if k.signed then -1 else k.max) n with | .pure v => some v | _ => none
  | _, _ => none

def opA (h : AHeap) (e : Env) (o : Op) : R Next' :=
  match o with
  | .move x | .assign x => match ev T e x with | some v => some (.value v, h) | none => none
  | .pick c a b => match ev T e c with
    | some (.bool c) => match (bif c then ev T e a else ev T e b) with | some v => some (.value v, h) | none => none
    | _ => none
  | .alloc t => match T.zero t with
    | some z => let (id, h) := h.new (.var (vcells z)); some (.value (.pointer (some ⟨id, 0, none⟩)), h)
    | none => none
  | .box _ x => match ev T e x with
    | some v => let (id, h) := h.new (.var (vcells v)); some (.value (.pointer (some ⟨id, 0, none⟩)), h)
    | none => none
  | .build t ps => match parts T e ps.toList with
    | some l => match buildA T t l with | some v => some (.value v, h) | none => none
    | none => none
  | .buildSlice t n ps => match parts T e ps.toList, T.und t with
    | some l, some (.slice el) => match T.size el, zeroRow T el n with
      | some k, some z => bif Nat.ble (n * k) 16777216 then
          match fillA (fun i => some (i * k, k)) z l with
          | some cs => let (id, h) := h.newRow k cs; some (.value (.slice (some ⟨id, 0, none⟩) n n), h)
          | none => none
        else none
      | _, _ => none
    | _, _ => none
  | .load t a => match ev T e a with
    | some (.pointer (some a)) => match loadA T h t a.block a.off with | some v => some (.value v, h) | none => none
    | _ => none
  | .store t a x => match ev T e a, ev T e x with
    | some a, some v => match storeA T h t a v with | some h => some (.skip, h) | none => none
    | _, _ => none
  | .nilCheck x => match ev T e x with
    | some (.pointer (some a)) => some (.value (.pointer (some a)), h)
    | some (.func (.func f) a b) => some (.value (.func (.func f) a b), h)
    | some (.iface t v) => some (.value (.iface t v), h)
    | _ => none
  | .binOp op t x y _ => match ev T e x, ev T e y with
    | some u, some v => match binA T (isConst x || isConst y) op t u v with | some v => some (.value v, h) | none => none
    | _, _ => none
  | .unOp op _ x => match ev T e x with
    | some x => match unA op x with | some v => some (.value v, h) | none => none
    | none => none
  | .convert s d x => match ev T e x with
    | some x => match convA T h s d x with | some (v, h) => some (.value v, h) | none => none
    | none => none
  | .makeInterface t x => match ev T e x, T.und t with
    | some v, some d => (match d with | .interface _ => none | _ => some (.value (.iface t v), h))
    | _, _ => none
  | .makeFunc (.func f) a b => match evs T e a.toList, evs T e b.toList with
    | some a, some b => some (.value (.func (.func f) a.toArray b.toArray), h)
    | _, _ => none
  | .makeMap _ none => let (id, h) := h.new (.map []); some (.value (.map (some id)), h)
  | .makeSlice t l c => match ev T e l, ev T e c, T.und t with
    | some (.int _ l), some (.int _ c), some (.slice el) => match T.info el, zeroRow T el c.toNat with
      | some i, some z => bif decide (0 ≤ l) && decide (l ≤ c) && Nat.blt (c.toNat * (i.bytes + 1)) roomy then
          let (id, h) := h.newRow i.size z
          some (.value (.slice (some ⟨id, 0, none⟩) l.toNat c.toNat), h)
        else none
      | _, _ => none
    | _, _, _ => none
  | .slice t x lo hi mx =>
    match ev T e x, evo T e lo, evo T e hi, evo T e mx with
    | some x, some lo, some hi, some mx => match sliceA T h t x lo hi mx with | some v => some (.value v, h) | none => none
    | _, _, _, _ => none
  | .fieldAddr t x i => match ev T e x, T.und t with
    | some (.pointer (some a)), some (.struct fs) => match fieldPlace T fs.toList i with
      | some (off, n) => bif Nat.beq n 0 then none else some (.value (.pointer (some ⟨a.block, a.off + off, none⟩)), h)
      | none => none
    | _, _ => none
  | .field t x i => match ev T e x, T.und t with
    | some (.agg cs), some (.struct fs) => match nth fs.toList i with
      | some f => match partA T f.type cs.toList f.offset with | some v => some (.value v, h) | none => none
      | none => none
    | _, _ => none
  | .indexAddr t x i => match ev T e x, ev T e i, T.und t with
    | some (.pointer (some a)), some (.int _ i), some (.array n el) => match T.size el with
      | some k => bif decide (0 ≤ i) && decide (i < n) then some (.value (.pointer (some ⟨a.block, a.off + i.toNat * k, none⟩)), h) else none
      | none => none
    | some (.slice (some a) n _), some (.int _ i), some (.slice el) => match T.size el with
      | some k => bif decide (0 ≤ i) && decide (i < n) then some (.value (.pointer (some ⟨a.block, a.off + i.toNat * k, none⟩)), h) else none
      | none => none
    | _, _, _ => none
  | .index t x i => match ev T e x, ev T e i, T.und t with
    | some (.agg cs), some (.int _ i), some (.array n el) => match T.size el with
      | some k => bif decide (0 ≤ i) && decide (i < n) then
          match partA T el cs.toList (i.toNat * k) with | some v => some (.value v, h) | none => none
        else none
      | none => none
    | some (.string s), some (.int _ i), some .string => bif decide (0 ≤ i) then
        match nth (strBytes s) i.toNat with
        | some b => some (.value (.int .u8 b.toNat), h)
        | none => none
      else none
    | _, _, _ => none
  | .lookup t m k ok => match ev T e m, ev T e k with
    | some m, some k => match lookupA T h t m k ok with | some v => some (.value v, h) | none => none
    | _, _ => none
  | .mapUpdate t m k v | .insert t m k v => match ev T e m, ev T e k, ev T e v with
    | some m, some k, some v => match updateA T h t m k v with | some h => some (.skip, h) | none => none
    | _, _, _ => none
  | .extract x i => match ev T e x with
    | some (.tuple vs) => match nth vs.toList i with | some v => some (.value v, h) | none => none
    | _ => none
  | .typeAssert x _ t ok => match ev T e x, T.und t with
    | some (.iface u v), some d => (match d with
      | .interface _ => none
      | _ => bif Nat.beq u t then some (.value (bif ok then .tuple #[v, .bool true] else v), h) else none)
    | _, _ => none
  | .call c => callOp T h e c
  | _ => none

/-- the heaps behind the operations that act, the first one ahead of all -/
def setDst (e : Trie Value) (d : Option Nat) (v : Value) : Trie Value := match d with | some d => e.set v d | none => e

def wantedA (ops : List Oper) (e : Env) (o : Oper) : Option Bool :=
  match o.guard with
  | none => some true
  | some (j, want) => match nth ops j with
    | some p => match p.dst with
      | some d => match e d with
        | some (.bool b) => some (b == want)
        | some _ => some false
        | none => none
      | none => none
    | none => none

inductive Exit' where
  | normal
  | exit (id : Nat)
  | ret
  deriving DecidableEq

/-- an operation that changes memory or enters a function -/
def isEff : Op → Bool
  | .store .. | .mapUpdate .. | .insert .. | .call { callee := .value _, .. } | .call { callee := .invoke .., .. } => true
  | .call { callee := .builtin b, .. } => !(b matches .len | .max | .min)
  | _ => false
def isAlloc : Op → Bool
  | .alloc .. | .box .. | .buildSlice .. | .makeMap .. | .makeSlice .. => true
  | .convert .. => true
  | _ => false
def isRead : Op → Bool
  | .load .. | .lookup .. | .call { callee := .builtin .len, .. } => true
  | .convert .. => true
  | _ => false

/-- call: the function's answer -/
def resultsA (h : AHeap) (e : Env) : List ResultVar → Option (List Value)
  | [] => some []
  | .tmp t :: l => match e t, resultsA h e l with
    | some v, some r => some (v :: r)
    | _, _ => none
  | .cell a t :: l => match e a, resultsA h e l with
    | some (.pointer (some a)), some r => match loadA T h t a.block a.off with
      | some v => some (v :: r)
      | none => none
    | _, _ => none
def answer : List Value → Value
  | [v] => v
  | l => .tuple l.toArray

/-! code -/
def dstOk (n : Nat) (o : Oper) : Bool := match o.dst with | some d => Nat.blt d n | none => true
/-- every slot that is written is one of the frame's; no form of code that is not run here -/
def codeOk (n : Nat) : Code → Bool
  | .skip | .exit _ | .ret => true
  | .region _ ops _ => ops.toList.all (dstOk n)
  | .seq a b | .cond _ a b => codeOk n a && codeOk n b
  | .block _ b | .loop b => codeOk n b
  | _ => false

/-- what the canonical run of a region knows of an operation -/
structure TE where
  run : Bool
  v : Value
  e : Trie Value
  hB : AHeap
  hA : AHeap

def sameCell : Value → Value → Bool
  | .bool a, .bool b => a == b
  | .int j a, .int k b => decide (j = k) && a == b
  | .string a, .string b => strBytes a == strBytes b
  | .pointer none, .pointer none => true
  | .pointer (some a), .pointer (some b) => decide (a = b)
  | .slice none a b, .slice none c d => Nat.beq a c && Nat.beq b d
  | .slice (some x) a b, .slice (some y) c d => decide (x = y) && Nat.beq a c && Nat.beq b d
  | .map none, .map none => true
  | .map (some a), .map (some b) => Nat.beq a b
  | .nilFunc, .nilFunc => true
  | .nilIface, .nilIface => true
  | _, _ => false
def sameCells : List Value → List Value → Bool
  | [], [] => true
  | a :: l, b :: m => sameCell a b && sameCells l m
  | _, _ => false
def sameVal : Value → Value → Bool
  | .agg a, .agg b => sameCells a.toList b.toList
  | .tuple a, .tuple b => sameCells a.toList b.toList
  | .func (.func f) a b, .func (.func g) c d => Nat.beq f g && sameCells a.toList c.toList && sameCells b.toList d.toList
  | a, b => sameCell a b

def isAl : Op → Bool
  | .alloc .. | .box .. | .buildSlice .. | .makeSlice .. => true
  | _ => false
/-- operations that neither write nor make anything -/
def isRd : Op → Bool
  | .move _ | .assign _ | .pick .. | .build .. | .load .. | .nilCheck _ | .binOp .. | .unOp .. | .makeInterface .. | .makeFunc .. | .slice .. | .fieldAddr .. | .field ..
  | .indexAddr .. | .index .. | .lookup .. | .extract .. | .typeAssert .. => true
  | .convert _ _ _ => true
  | .call { callee := .builtin .len, .. } | .call { callee := .builtin .max, .. } | .call { callee := .builtin .min, .. } => true
  | _ => false
def isEf (o : Op) : Bool := !isAl o && !isRd o

def opTmps (o : Oper) : List Nat := o.op.operands.toList.filterMap fun | .tmp t => some t | _ => none

/-- of each operation the set of those that must be ahead of it, as a number's bits -/
def masks : List Oper → List Nat → List Nat
  | [], acc => acc.reverse
  | o :: l, acc => masks l ((o.after.toList.foldl (fun s e => bif Region.binds .any e then Nat.lor (Nat.lor s (Nat.shiftLeft 1 e.on)) (match nth acc (acc.length - 1 - e.on) with | some k => k | none => 0) else s) 0) :: acc)

def bit (ms : List Nat) (i j : Nat) : Bool := match nth ms i with | some k => k.testBit j | none => false

def idx {α : Type} : List α → Nat → List (α × Nat)
  | [], _ => []
  | a :: l, i => (a, i) :: idx l (i + 1)

/-- the slots at which an operation looks: its operands', and its guard's -/
def looks (all : List Oper) (o : Oper) : List Nat :=
  opTmps o ++ (match o.guard with | some (j, _) => (match nth all j with | some p => p.dst.toList | none => []) | none => [])

def count {α : Type} (p : α → Bool) : List α → Nat
  | [] => 0
  | a :: l => bif p a then count p l + 1 else count p l

/-- how many operations that act must be ahead of one -/
def rank (ms : List Nat) (l : List (Oper × Nat)) (i : Nat) : Nat := count (fun x => isEf x.1.op && bit ms i x.2) l

/-- the parts of the canonical order: what does not act as early as may be, between what acts -/
def drawPart (ms : List Nat) (l : List (Oper × Nat)) (k : Nat) : List (Oper × Nat) := l.filter fun x => !isEf x.1.op && Nat.beq (rank ms l x.2) k

/-- the canonical order -/
def order (f : Nat → List (Oper × Nat)) : List (Oper × Nat) → Nat → List Nat
  | [], k => (f k).map (·.2)
  | x :: es, k => (f k).map (·.2) ++ x.2 :: order f es (k + 1)

def topo (ms : List Nat) : List Nat → Bool
  | [] => true
  | i :: l => l.all (fun j => !bit ms i j && !Nat.beq i j) && topo ms l

/-- what is asked of a region that draws its order: whichever order is drawn, the canonical run stands for it -/
def drawStatic (all : List Oper) : Bool :=
  let ms := masks all []
  let l := idx all 0
  let od := order (drawPart ms l) (l.filter fun x => isEf x.1.op) 0
  l.all (fun x => x.1.after.toList.all fun e => !Region.binds .any e || Nat.blt e.on x.2) &&
  l.all (fun x => l.all fun y => Nat.beq x.2 y.2 || (match x.1.dst, y.1.dst with | some a, some b => !Nat.beq a b | _, _ => true)) &&
  l.all (fun x => (looks all x.1).all fun t => l.all fun y => Nat.beq x.2 y.2 || (match y.1.dst with | some d => !Nat.beq d t || (bif Nat.blt y.2 x.2 then bit ms x.2 y.2 else bit ms y.2 x.2) | none => true)) &&
  l.all (fun x => !isEf x.1.op || l.all fun y => !isEf y.1.op || !Nat.blt y.2 x.2 || bit ms x.2 y.2) &&
  topo ms od && l.all (fun x => od.any (Nat.beq x.2 ·))

/-- what is asked of the canonical run's k-th heap (behind the k-th operation that acts) -/
def entryOk (hs : AHeap) (ms : List Nat) (l : List (Oper × Nat)) (k : Nat) (o : Oper) (i : Nat) (t : TE) : Bool :=
  isEf o.op || Nat.ble k (rank ms l i) || Nat.blt (count (fun x => isEf x.1.op && !bit ms x.2 i) l) k || !t.run ||
    (bif isAl o.op then (match hs.objs.get t.hB.next, t.hA.objs.get t.hB.next with
        | some (.var a), some (.var b) => sameCells a b
        | some (.row a k f v), some (.row b k' f' v') => sameCells a b && Nat.beq k k' && Nat.beq f f' && Nat.beq v v' && (match hs.fams.get f with | none => true | some _ => false)
        | _, _ => false)
      else match opA T hs t.e.get o.op with
        | some (.value v, g) => sameVal v t.v && Nat.beq g.next hs.next
        | _ => false)

def heapOk (hs : AHeap) (all : List Oper) (ms : List Nat) (l : List (Oper × Nat)) (tr : List (Nat × TE)) (k : Nat) : Bool :=
  tr.all fun x => match nth all x.1 with
    | some o => entryOk T hs ms l k o x.1 x.2
    | none => false

/-- the heaps behind the operations that act -/
def actHeaps (all : List Oper) : List (Nat × TE) → List AHeap
  | [] => []
  | x :: tr => match nth all x.1 with
    | some o => bif isEf o.op then x.2.hA :: actHeaps all tr else actHeaps all tr
    | none => actHeaps all tr

def heapsOk (all : List Oper) (ms : List Nat) (l : List (Oper × Nat)) (tr : List (Nat × TE)) : List AHeap → Nat → Bool
  | [], _ => true
  | hs :: r, k => heapOk T hs all ms l tr (k + 1) && heapsOk all ms l tr r (k + 1)

/-- the next number never falls -/
def nexts : Nat → List (Nat × TE) → Bool
  | _, [] => true
  | lo, x :: tr => Nat.ble lo x.2.hB.next && Nat.ble x.2.hB.next x.2.hA.next && nexts x.2.hA.next tr

/-- operations that do not act, one behind the other -/
def tracePure (all : List Oper) : List (Oper × Nat) → Trie Value → AHeap → Option (List (Nat × TE) × Trie Value × AHeap)
  | [], e, h => some ([], e, h)
  | (o, i) :: rest, e, h =>
    match wantedA all e.get o with
    | some true => match opA T h e.get o.op with
      | some (.value v, h') => bif isAl o.op || Nat.beq h'.next h.next then
          match tracePure all rest (setDst e o.dst v) h' with
          | some (tr, r) => some ((i, ⟨true, v, e, h, h'⟩) :: tr, r)
          | none => none
        else none
      | _ => none
    | some false => match tracePure all rest (setDst e o.dst undef) h with
      | some (tr, r) => some ((i, ⟨false, undef, e, h, h⟩) :: tr, r)
      | none => none
    | none => none

mutual
def runCode (n : Nat) (c : Code) (e : Trie Value) (h : AHeap) : Option (Exit' × Trie Value × AHeap) :=
  match n with
  | 0 => none
  | n + 1 =>
    match c with
    | .skip => some (.normal, e, h)
    | .seq a b => match runCode n a e h with
      | some (.normal, e, h) => runCode n b e h
      | r => r
    | .cond x a b => match ev T e.get x with
      | some (.bool t) => bif t then runCode n a e h else runCode n b e h
      | _ => none
    | .block id b => match runCode n b e h with
      | some (.exit i, e, h) => bif Nat.beq i id then some (.normal, e, h) else some (.exit i, e, h)
      | r => r
    | .loop b => match runCode n b e h with
      | some (.normal, e, h) => runCode n (.loop b) e h
      | r => r
    | .exit id => some (.exit id, e, h)
    | .ret => some (.ret, e, h)
    | .region _ ops false => match runOps n ops.toList ops.toList e h with
      | some (e, h) => some (.normal, e, h)
      | none => none
    | .region _ ops true =>
      let all := ops.toList
      let ms := masks all []
      let l := idx all 0
      let es := l.filter fun x => isEf x.1.op
      bif drawStatic all then
        match runParts n all (drawPart ms l) es 0 e h with
        | some (tr, e', h') => bif nexts h.next tr && heapsOk T all ms l tr (actHeaps all tr) 0 then some (.normal, e', h') else none
        | none => none
      else none
    | _ => none
def runOps (n : Nat) (all ops : List Oper) (e : Trie Value) (h : AHeap) : Option (Trie Value × AHeap) :=
  match n with
  | 0 => none
  | n + 1 =>
    match ops with
    | [] => some (e, h)
    | o :: rest =>
      match wantedA all e.get o with
      | some true => match opA T h e.get o.op with
        | some (.value v, h) => runOps n all rest (setDst e o.dst v) h
        | some (.skip, h) => runOps n all rest (setDst e o.dst undef) h
        | some (.enter f args, h) => match runCall n f args h with
          | some (v, h) => runOps n all rest (setDst e o.dst v) h
          | none => none
        | none => none
      | some false => runOps n all rest (setDst e o.dst undef) h
      | none => none
def runParts (n : Nat) (all : List Oper) (f : Nat → List (Oper × Nat)) (es : List (Oper × Nat)) (k : Nat) (e : Trie Value) (h : AHeap) : Option (List (Nat × TE) × Trie Value × AHeap) :=
  match n with
  | 0 => none
  | n + 1 =>
    match tracePure T all (f k) e h with
    | none => none
    | some (tr, e, h) => match es with
      | [] => some (tr, e, h)
      | (o, i) :: es =>
        match wantedA all e.get o with
        | some true => match opA T h e.get o.op with
          | some (.value v, h') => match runParts n all f es (k + 1) (setDst e o.dst v) h' with
            | some (tr', r) => some (tr ++ (i, ⟨true, v, e, h, h'⟩) :: tr', r)
            | none => none
          | some (.skip, h') => match runParts n all f es (k + 1) (setDst e o.dst undef) h' with
            | some (tr', r) => some (tr ++ (i, ⟨true, undef, e, h, h'⟩) :: tr', r)
            | none => none
          | some (.enter g args, h1) => match runCall n g args h1 with
            | some (v, h') => match runParts n all f es (k + 1) (setDst e o.dst v) h' with
              | some (tr', r) => some (tr ++ (i, ⟨true, v, e, h, h'⟩) :: tr', r)
              | none => none
            | none => none
          | none => none
        | some false => match runParts n all f es (k + 1) (setDst e o.dst undef) h with
          | some (tr', r) => some (tr ++ (i, ⟨false, undef, e, h, h⟩) :: tr', r)
          | none => none
        | none => none
def runCall (n : Nat) (f : Nat) (args : List Value) (h : AHeap) : Option (Value × AHeap) :=
  match n with
  | 0 => none
  | n + 1 =>
    match T.summ f with
    | some s => s args h
    | none =>
      match T.func f with
      | some fn => match fn.body with
        | some c => match runCode n c (Trie.fill .leaf 0 args) h with
          | some (.normal, e, h) | some (.ret, e, h) => match resultsA T h e.get fn.results.toList with
            | some l => some (answer l, h)
            | none => none
          | _ => none
        | none => none
      | none => none
end

end Go.AM
