/- The abstract machine: values, heap, operations. No proof is told here; what each word is good for is proved in the texts behind this one. -/
import Derived.Laws.Sem
import Derived.OrdersHeld
import Derived.Laws.Externs
set_option linter.unusedVariables false
namespace Go.Proofs.YtlcfkeigipkhlaaGreatDoorAbs

/-- What is known of a slice's capacity: a number; or: up to the end of its row, whose elements have so many cells. -/
inductive ACap where
  | exact (n : Nat)
  | tail (sz : Nat)

/-- Values over numbers of objects. -/
inductive AV where
  | junk
  | bool (b : Bool)
  | int (k : IntKind) (n : Int)
  | str (s : ByteArray)
  | nilp
  | ptr (id off : Nat)
  | gptr (g off : Nat)
  | nils
  | sl (id off len : Nat) (cap : ACap)
  | emp (id : Nat)
  | mp (r : Option Nat)
  | fn (f : FuncId) (first caps : List AV)
  | nilf
  | iface (t : TypeId) (v : AV)
  | nili
  | agg (l : List AV)
  | tup (l : List AV)

/-- How much of a row is known: not how many cells it has; that; that, and that it bears no mark of a string's bytes. -/
inductive Fill where
  | no | yes | new

def Fill.mark : Fill → Fill
  | .no => .no
  | _ => .yes

inductive AObj where
  | row (cs : List AV) (full : Fill) (e : TypeId)
  | ro (cs : List AV)
  | rom (es : List (AV × AV))
  | map (es : List (AV × AV))
  | sit (s : ByteArray) (pos : Nat)
  | mit (m : Option Nat) (n : Nat) (left : List Nat) (at_ : Nat)

def AObj.own : AObj → Bool
  | .ro _ | .rom _ => false
  | _ => true

/-- A store of objects by numbers. -/
inductive Trie where
  | leaf
  | node (v : Option AObj) (l r : Trie)

def Trie.getF : Nat → Trie → Nat → Option AObj
  | 0, _, _ => none
  | _ + 1, .leaf, _ => none
  | d + 1, .node v l r, n => if n = 0 then v else if n % 2 = 1 then Trie.getF d l (n / 2) else Trie.getF d r (n / 2 - 1)

def Trie.setF : Nat → Trie → Nat → Option AObj → Trie
  | 0, t, _, _ => t
  | d + 1, .leaf, n, o => if n = 0 then .node o .leaf .leaf else if n % 2 = 1 then .node none (Trie.setF d .leaf (n / 2) o) .leaf else .node none .leaf (Trie.setF d .leaf (n / 2 - 1) o)
  | d + 1, .node v l r, n, o => if n = 0 then .node o l r else if n % 2 = 1 then .node v (Trie.setF d l (n / 2) o) r else .node v l (Trie.setF d r (n / 2 - 1) o)

def Trie.get (t : Trie) (n : Nat) : Option AObj := Trie.getF (n + 1) t n
def Trie.set (t : Trie) (n : Nat) (o : Option AObj) : Trie := Trie.setF (n + 1) t n o

/-- The abstract heap: the next number, the objects, what package-level variables hold. -/
structure Heap where
  next : Nat
  t : Trie
  gl : Nat → Option (List AV)

def Heap.get (H : Heap) (id : Nat) : Option AObj := H.t.get id
def Heap.set (H : Heap) (id : Nat) (o : Option AObj) : Heap := { H with t := H.t.set id o }
def Heap.alloc (H : Heap) (o : AObj) : Heap := { H with next := H.next + 1, t := H.t.set H.next (some o) }

/-- What comes of a run: none that is told; one; one of some. -/
inductive Res (α : Type) where
  | fail
  | ret (a : α)
  | every (k : Nat → Res α)
  | any (n : Nat) (k : Nat → Res α)
  | need (x y : Option AV) (r : Res α)

def Res.bind {α β : Type} : Res α → (α → Res β) → Res β
  | .fail, _ => .fail
  | .ret a, f => f a
  | .every k, f => .every fun i => (k i).bind f
  | .any n k, f => .any n fun i => (k i).bind f
  | .need x y r, f => .need x y (r.bind f)

def Res.all {α : Type} : Res α → (α → Prop) → Prop
  | .fail, _ => False
  | .ret a, Q => Q a
  | .every k, Q => ∀ i, (k i).all Q
  | .any n k, Q => ∀ i, i < n → (k i).all Q
  | .need x y r, Q => x = y ∧ r.all Q

abbrev M := Heap → Res (AV × Heap)

def ofO {α β : Type} (o : Option α) (f : α → Res β) : Res β :=
  match o with
  | some a => f a
  | none => .fail

/-! ### Values -/
def AV.cells : AV → List AV
  | .agg l => l
  | v => [v]

/-- Is it the value of one cell? -/
def AV.cell : AV → Bool
  | .junk | .agg _ | .tup _ => false
  | _ => true

def undefA : AV := .tup []

def convS : Value → Option AV
  | .bool b => some (.bool b)
  | .int k n => some (.int k n)
  | .string s => some (.str s)
  | .pointer none => some .nilp
  | .slice none 0 0 => some .nils
  | .map none => some (.mp none)
  | .nilFunc => some .nilf
  | .nilIface => some .nili
  | _ => none

def convL : List Value → Option (List AV)
  | [] => some []
  | v :: l => match convS v, convL l with
    | some a, some as => some (a :: as)
    | _, _ => none

def conv : Value → Option AV
  | .agg cs => (convL cs.toList).map .agg
  | .tuple vs => if vs.size = 0 then some undefA else none
  | v => convS v

/-- Is something known of it? -/
def nj : AV → Option AV
  | .junk => none
  | v => some v

def evA (regs : List AV) : Operand → Option AV
  | .tmp t => match regs[t]? with
    | some v => nj v
    | none => none
  | .const v => conv v
  | .global g => some (.gptr g 0)
  | .func f => some (.fn f [] [])

def evL (regs : List AV) : List Operand → Option (List AV)
  | [] => some []
  | x :: l => match evA regs x, evL regs l with
    | some a, some as => some (a :: as)
    | _, _ => none

def putA (regs : List AV) (dst : Option Tmp) (v : AV) : List AV :=
  match dst with
  | some d => regs.set d v
  | none => regs

/-! ### Types -/
def sizA (P : Program) (t : TypeId) : Option Nat := (P.info? t).map (·.size)
def bytA (P : Program) (t : TypeId) : Option Nat := (P.info? t).map (·.bytes)
def zeroA (P : Program) (t : TypeId) : Option AV := (P.info? t).bind fun i => i.zero.bind conv
def aggA (P : Program) (t : TypeId) : Option Bool :=
  match P.underlying t with
  | some (.struct _) | some (.array _ _) => some true
  | some _ => some false
  | none => none
def fieldA (P : Program) (s : TypeId) (i : Nat) : Option Field :=
  match P.underlying s with
  | some (.struct fs) => fs[i]?
  | _ => none

/-! ### Memory -/
def Heap.cells (H : Heap) (id : Nat) : Option (List AV) :=
  match H.get id with
  | some (.row cs _ _) => some cs
  | some (.ro cs) => some cs
  | _ => none

def loadN (cs : List AV) (off n : Nat) : Option (List AV) := if off + n ≤ cs.length ∧ ((cs.drop off).take n).all AV.cell = true then some ((cs.drop off).take n) else none

def Heap.at_ (H : Heap) : AV → Nat → Option (List AV)
  | .ptr id off, n => match H.cells id with
    | some cs => if 0 < n then loadN cs off n else none
    | none => none
  | .gptr g off, n => match H.gl g with
    | some cs => if 0 < n then loadN cs off n else none
    | none => none
  | _, _ => none

def ldA (n : Nat) (v : AV) (H : Heap) : Option AV := (H.at_ v n).map .agg
def ld1 (v : AV) (H : Heap) : Option AV :=
  match H.at_ v 1 with
  | some [x] => some x
  | _ => none
def loadA (P : Program) (t : TypeId) (v : AV) (H : Heap) : Option AV :=
  match aggA P t, sizA P t with
  | some true, some n => ldA n v H
  | some false, some _ => ld1 v H
  | _, _ => none

def splice (cs : List AV) (off : Nat) (l : List AV) : List AV := cs.take off ++ l ++ cs.drop (off + l.length)

def Heap.put (H : Heap) (id off : Nat) (l : List AV) : Option Heap :=
  if l.all AV.cell then
    match H.get id with
    | some (.row cs full e) => if off + l.length ≤ cs.length then some (H.set id (some (.row (splice cs off l) full e))) else none
    | _ => none
  else none

def storeA (P : Program) (t : TypeId) (a v : AV) (H : Heap) : Option Heap :=
  match sizA P t, a with
  | some n, .ptr id off => if v.cells.length = n then H.put id off v.cells else none
  | _, _ => none

/-- A new row. -/
def newA (e : TypeId) (cs : List AV) (H : Heap) : Option (AV × Heap) :=
  if cs.all AV.cell then some (.ptr H.next 0, H.alloc (.row cs .new e)) else none

def fillA (place : Nat → Option (Nat × Nat)) (cells : List AV) : List (Nat × AV) → Option (List AV)
  | [] => some cells
  | (i, v) :: rest =>
    match place i with
    | none => none
    | some (off, size) => if v.cells.length = size ∧ off + size ≤ cells.length then fillA place (splice cells off v.cells) rest else none

def evParts (regs : List AV) : List (Nat × Operand) → Option (List (Nat × AV))
  | [] => some []
  | (i, x) :: l => match evA regs x, evParts regs l with
    | some a, some as => some ((i, a) :: as)
    | _, _ => none

def placesA (P : Program) : List Field → Option (List (Nat × Nat))
  | [] => some []
  | f :: l => match sizA P f.type, placesA P l with
    | some s, some r => some ((f.offset, s) :: r)
    | _, _ => none

def placeA (P : Program) (t : TypeId) : Option (Nat → Option (Nat × Nat)) :=
  match P.underlying t with
  | some (.struct fs) => (placesA P fs.toList).map fun l i => l[i]?
  | some (.array _ elem) => match sizA P elem with
    | some s => some fun i => some (i * s, s)
    | none => none
  | _ => none

def buildA (P : Program) (t : TypeId) (parts : List (Nat × AV)) : Option AV :=
  match zeroA P t, placeA P t with
  | some z, some place => (fillA place z.cells parts).map .agg
  | _, _ => none

def repeatL (z : List AV) : Nat → List AV
  | 0 => []
  | n + 1 => z ++ repeatL z n

def elemA (P : Program) (t : TypeId) : Option TypeId :=
  match P.underlying t with
  | some (.slice e) => some e
  | _ => none

/-- The zero value's cells and how many there are. -/
def zcellsA (P : Program) (e : TypeId) : Option (List AV) :=
  match zeroA P e, sizA P e with
  | some z, some s => if z.cells.length = s ∧ 0 < s then some z.cells else none
  | _, _ => none

def buildSliceA (P : Program) (t : TypeId) (len : Nat) (parts : List (Nat × AV)) (H : Heap) : Option (AV × Heap) :=
  match elemA P t with
  | some e => match zcellsA P e with
    | some z =>
      if len * z.length ≤ 16777216 then
        match fillA (fun i => some (i * z.length, z.length)) (repeatL z len) parts with
        | some cs => if cs.all AV.cell then some (.sl H.next 0 len (.exact len), H.alloc (.row cs .new e)) else none
        | none => none
      else none
    | none => none
  | none => none

def makeSliceA (P : Program) (t : TypeId) (l c : AV) (H : Heap) : Option (AV × Heap) :=
  match elemA P t, l, c with
  | some e, .int _ l, .int _ c => match zcellsA P e, bytA P e with
    | some z, some b =>
      if 0 ≤ l ∧ l ≤ c ∧ (b : Int) * c ≤ 281474976710656 ∧ c ≤ 9223372036854775807 then some (.sl H.next 0 l.toNat (.exact c.toNat), H.alloc (.row (repeatL z c.toNat) .new e)) else none
    | _, _ => none
  | _, _, _ => none

/-! ### Arithmetic -/
def intBitsA (op : BinOp) (k : IntKind) (x y : Int) : Option AV :=
  let a := BitVec.ofInt k.bits x
  let b := BitVec.ofInt k.bits y
  match op with
  | .and => some (.int k (k.wrap (a &&& b).toNat))
  | .or => some (.int k (k.wrap (a ||| b).toNat))
  | .xor => some (.int k (k.wrap (a ^^^ b).toNat))
  | .andNot => some (.int k (k.wrap (a &&& ~~~b).toNat))
  | _ => none

def intA (op : BinOp) (k : IntKind) (x y : Int) : Option AV :=
  match op with
  | .add => some (.int k (k.wrap (x + y)))
  | .sub => some (.int k (k.wrap (x - y)))
  | .mul => some (.int k (k.wrap (x * y)))
  | .quo => if y = 0 then none else some (.int k (k.wrap (x.tdiv y)))
  | .rem => if y = 0 then none else some (.int k (x.tmod y))
  | .eql => some (.bool (x == y))
  | .neq => some (.bool (x != y))
  | .lss => some (.bool (decide (x < y)))
  | .leq => some (.bool (decide (x ≤ y)))
  | .gtr => some (.bool (decide (x > y)))
  | .geq => some (.bool (decide (x ≥ y)))
  | op => intBitsA op k x y

def shiftA (op : BinOp) (k : IntKind) (x y : Int) : Option AV :=
  if y < 0 then none else
  let n := min y.toNat k.bits
  match op with
  | .shl => some (.int k (k.wrap (x * 2 ^ n)))
  | .shr => some (.int k (x.fdiv (2 ^ n)))
  | _ => none

def strA (op : BinOp) (x y : ByteArray) : Option AV :=
  let eq := x.data.toList == y.data.toList
  let lt := Op.bytesLess x.data.toList y.data.toList
  match op with
  | .add => if x.size + y.size ≤ 9223372036854775807 then some (.str ⟨x.data ++ y.data⟩) else none
  | .eql => some (.bool eq)
  | .neq => some (.bool !eq)
  | .lss => some (.bool lt)
  | .leq => some (.bool (lt || eq))
  | .gtr => some (.bool !(lt || eq))
  | .geq => some (.bool !lt)
  | _ => none

/-- The kinds of plain cells. -/
inductive PK where
  | b | i | s

/-- Are two values one? (Plain ones, by their kind.) -/
def eqPlain : PK → AV → AV → Option Bool
  | .b, .bool a, .bool b => some (a == b)
  | .i, .int k a, .int k' b => if k = k' then some (a == b) else none
  | .s, .str a, .str b => some (a.data.toList == b.data.toList)
  | _, _, _ => none

/-- Cell by cell, from the left, up to the first that isn't. -/
def eqCells : List PK → List AV → List AV → Option Bool
  | [], [], [] => some true
  | k :: ks, a :: as, b :: bs => match eqPlain k a b with
    | some true => eqCells ks as bs
    | some false => some false
    | none => none
  | _, _, _ => none

def plainFs (P : Program) (pl : TypeId → Option (List PK)) : Nat → List Field → Option (List PK)
  | _, [] => some []
  | off, f :: l => match pl f.type, sizA P f.type with
    | some ks, some n => if f.name ≠ "_" ∧ f.offset = off ∧ n = ks.length then (plainFs P pl (off + n) l).map (ks ++ ·) else none
    | _, _ => none

def repeatK (ks : List PK) : Nat → List PK
  | 0 => []
  | n + 1 => ks ++ repeatK ks n

/-- A type all of whose cells are plain, in their order, none of them nameless: their kinds. -/
def plainT (P : Program) : Nat → TypeId → Option (List PK)
  | 0, _ => none
  | d + 1, t => match P.underlying t with
    | some .bool => some [.b]
    | some (.int _) => some [.i]
    | some .string => some [.s]
    | some (.struct fs) => if P.stoodInHeld t = false then plainFs P (plainT P d) 0 fs.toList else none
    | some (.array len e) => match plainT P d e with
      | some ks => if sizA P e = some ks.length then some (repeatK ks len) else none
      | none => none
    | _ => none

def eqA (P : Program) (op : BinOp) (t : TypeId) (x y : AV) : Option Bool :=
  match x, y with
  | .bool a, .bool b => match P.underlying t with
    | some .bool => some (a == b)
    | _ => none
  | .agg a, .agg b => match plainT P 8 t, aggA P t with
    | some ks, some true => if P.eqGuardType P.depth t = false ∧ a.length = ks.length ∧ b.length = ks.length ∧ sizA P t = some ks.length then eqCells ks a b else none
    | _, _ => none
  | .nilp, .nilp => match P.underlying t with
    | some (.pointer _) => some true
    | _ => none
  | .nils, .nils => match P.underlying t with
    | some (.slice _) => some true
    | _ => none
  | _, _ => none

def isConstO : Operand → Bool
  | .const _ => true
  | _ => false

/-- '==' and '!=' where one operand is the literal nil of an interface type. -/
def nilA (P : Program) (t : TypeId) (x y : AV) : Option Bool :=
  match P.underlying t, x, y with
  | some (.interface _), .nili, .nili => some true
  | some (.interface _), .nili, .iface _ _ => some false
  | some (.interface _), .iface _ _, .nili => some false
  | _, _, _ => none

def binA (P : Program) (op : BinOp) (t : TypeId) (xo yo : Operand) (x y : AV) : Option AV :=
  match x, y with
  | .int k a, .int k' b => match op with
    | .shl | .shr => shiftA op k a b
    | op => if k = k' then intA op k a b else none
  | .str a, .str b => strA op a b
  | x, y => match op with
    | .eql => if isConstO xo || isConstO yo then (match nilA P t x y with
      | some b => some (.bool b)
      | none => (eqA P op t x y).map .bool) else (eqA P op t x y).map .bool
    | .neq => if isConstO xo || isConstO yo then (match nilA P t x y with
      | some b => some (.bool !b)
      | none => (eqA P op t x y).map fun b => .bool !b) else (eqA P op t x y).map fun b => .bool !b
    | _ => none

def Heap.has (H : Heap) (id : Nat) : Bool :=
  match H.get id with
  | some (.row _ _ _) | some (.ro _) | some (.map _) | some (.rom _) => true
  | _ => false

/-- x is no nil, y is the nil of its type. -/
def nonNil (P : Program) (t : TypeId) (H : Heap) (x y : AV) : Bool :=
  match P.underlying t, x, y with
  | some (.slice _), .sl id _ _ _, .nils => H.has id
  | some (.slice _), .emp _, .nils => true
  | some (.pointer _), .ptr id _, .nilp => H.has id
  | some (.pointer _), .gptr _ _, .nilp => true
  | some (.map _ _), .mp (some id), .mp none => H.has id
  | _, _, _ => false

def bothNil (P : Program) (t : TypeId) (x y : AV) : Bool :=
  match P.underlying t, x, y with
  | some (.map _ _), .mp none, .mp none => true
  | _, _, _ => false

def vsNilA (P : Program) (op : BinOp) (t : TypeId) (H : Heap) (x y : AV) : Option AV :=
  match op with
  | .eql => if nonNil P t H x y then some (.bool false) else if bothNil P t x y then some (.bool true) else none
  | .neq => if nonNil P t H x y then some (.bool true) else if bothNil P t x y then some (.bool false) else none
  | _ => none

def unA (op : UnOp) (x : AV) : Option AV :=
  match op, x with
  | .neg, .int k n => some (.int k (k.wrap (0 - n)))
  | .xor, .int k n => intBitsA .xor k (if k.signed then -1 else k.max) n
  | .not, .bool b => some (.bool !b)
  | _, _ => none

/-! ### Places -/
def Heap.live (H : Heap) (id : Nat) : Bool :=
  match H.get id with
  | some (.row _ _ _) => true
  | some (.ro (_ :: _)) => true
  | _ => false

def addA (H : Heap) : AV → Nat → Option AV
  | .ptr id off, n => if H.live id then some (.ptr id (off + n)) else none
  | .gptr g off, n => some (.gptr g (off + n))
  | _, _ => none

def fieldAddrA (P : Program) (s : TypeId) (x : AV) (i : Nat) (H : Heap) : Option AV :=
  match fieldA P s i with
  | some f => match sizA P f.type with
    | some n => if 0 < n then addA H x f.offset else none
    | none => none
  | none => none

def partA (P : Program) (t : TypeId) (cs : List AV) (off : Nat) : Option AV :=
  match aggA P t, sizA P t with
  | some true, some n => if off + n ≤ cs.length then some (.agg ((cs.drop off).take n)) else none
  | some false, some _ => cs[off]?
  | _, _ => none

def fieldValA (P : Program) (s : TypeId) (x : AV) (i : Nat) : Option AV :=
  match fieldA P s i, x with
  | some f, .agg cs => partA P f.type cs f.offset
  | _, _ => none

def indexAddrA (P : Program) (t : TypeId) (x i : AV) (H : Heap) : Option AV :=
  match P.underlying t, i with
  | some (.array len e), .int _ i => match sizA P e with
    | some s => if 0 ≤ i ∧ i < len then addA H x (i.toNat * s) else none
    | none => none
  | some (.slice e), .int _ i => match sizA P e, x with
    | some s, .sl id off len _ => match H.cells id with
      | some cs => if 0 ≤ i ∧ i < len ∧ 0 < s ∧ off + len * s ≤ cs.length then some (.ptr id (off + i.toNat * s)) else none
      | none => none
    | _, _ => none
  | _, _ => none

def indexA (P : Program) (t : TypeId) (x i : AV) : Option AV :=
  match P.underlying t, x, i with
  | some (.array len e), .agg cs, .int _ i => match sizA P e with
    | some s => if 0 ≤ i ∧ i < len then partA P e cs (i.toNat * s) else none
    | none => none
  | some .string, .str s, .int _ i => if 0 ≤ i then (s.data.toList[i.toNat]?).map (fun b => .int .u8 b.toNat) else none
  | _, _, _ => none

/-- A slice whose row is known in full has a known capacity. -/
def normCap (H : Heap) (x : AV) : AV :=
  match x with
  | .sl id off len (.tail z) => match H.get id with
    | some (.row cs .yes _) | some (.row cs .new _) => .sl id off len (.exact ((cs.length - off) / z))
    | _ => x
  | _ => x

def boundA (x : Option AV) (d : Nat) : Option Nat :=
  match x with
  | none => some d
  | some (.int _ n) => if 0 ≤ n then some n.toNat else none
  | some _ => none

def Heap.isRow (H : Heap) (id : Nat) : Bool :=
  match H.get id with
  | some (.row _ _ _) => true
  | _ => false

/-- May a slice with that capacity be cut to so many? -/
def ACap.may (H : Heap) (id : Nat) : ACap → Nat → Nat → Bool
  | .exact n, m, _ => decide (m ≤ n)
  | .tail z, _, s => decide (z = s) && H.isRow id

/-- Cutting a slice. -/
def cutA (P : Program) (e : TypeId) (x : AV) (lo hi mx : Option AV) (H : Heap) : Option (AV × Heap) :=
  match sizA P e with
  | some s => match normCap H x with
    | .nils => match boundA lo 0, boundA hi 0, boundA mx 0 with
      | some 0, some 0, some 0 => if mx.isSome = true → hi.isSome = true then some (.nils, H) else none
      | _, _, _ => none
    | .emp id => match boundA lo 0, boundA hi 0, mx with
      | some 0, some 0, none => some (.emp id, H)
      | _, _, _ => none
    | .sl id off len cap =>
      match boundA lo 0, boundA hi len, H.cells id with
      | some l, some h, some cs =>
        if off + len * s ≤ cs.length ∧ off < cs.length ∧ 0 < s then
          match mx with
          | some m => match boundA (some m) 0 with
            | some m => if l = 0 ∧ hi.isSome = true ∧ h ≤ m ∧ m ≤ len ∧ cap.may H id m s = true then some (.sl id off h (.exact m), H) else none
            | none => none
          | none =>
            match cap with
            | .exact n =>
              if l = 0 then (if h ≤ n then some (.sl id off h (.exact n), H) else none)
              else if l ≤ h ∧ h ≤ len ∧ len ≤ n then
                (if l < len then some (.sl id (off + l * s) (h - l) (.exact (n - l)), H) else some (.emp H.next, { H with next := H.next + 1 }))
              else none
            | .tail z =>
              if z = s ∧ H.isRow id = true ∧ l ≤ h ∧ h ≤ len then
                if l = 0 then some (.sl id off h (.tail z), H)
                else if l < len then some (.sl id (off + l * s) (h - l) (.tail z), H) else some (.emp H.next, { H with next := H.next + 1 })
              else none
        else if off + len * s ≤ cs.length ∧ l = 0 ∧ h = 0 ∧ mx.isNone = true then
          match cap with
          | .exact n => some (.sl id off 0 (.exact n), H)
          | .tail _ => none
        else none
      | _, _, _ => none
    | _ => none
  | none => none

def sliceA (P : Program) (t : TypeId) (x : AV) (lo hi mx : Option AV) (H : Heap) : Option (AV × Heap) :=
  match P.underlying t, x with
  | some .string, .str s => match boundA lo 0, boundA hi s.size, mx with
    | some l, some h, none => if l ≤ h ∧ h ≤ s.size then some (.str ⟨(s.data.toList.drop l |>.take (h - l)).toArray⟩, H) else none
    | _, _, _ => none
  | some (.slice e), x => cutA P e x lo hi mx H
  | some (.array n e), .ptr id off => match boundA lo 0, boundA hi n, mx, sizA P e with
    | some l, some h, none, some s => if l ≤ h ∧ h ≤ n ∧ 0 < s ∧ H.live id = true then some (if n = l then .sl id off 0 (.exact 0) else .sl id (off + l * s) (h - l) (.exact (n - l)), H) else none
    | _, _, _, _ => none
  | _, _ => none

/-! ### append, copy, len .. -/
/-- Bytes as cells. -/
def bytesAV (l : List UInt8) : List AV := l.map fun c => .int .u8 c.toNat

/-- The cells of the first n elements. -/
def firstA (s n : Nat) (x : AV) (H : Heap) : Option (List AV) :=
  match x with
  | .sl id off _ _ => match H.cells id with
    | some cs => loadN cs off (n * s)
    | none => none
  | .nils => if n = 0 then some [] else none
  | .emp _ => if n = 0 then some [] else none
  | .str b => if n ≤ b.size then some (bytesAV (b.data.toList.take n)) else none
  | _ => none

def lenA : AV → Option Nat
  | .sl _ _ n _ => some n
  | .nils => some 0
  | .emp _ => some 0
  | .str b => some b.size
  | _ => none

def lenSlA : AV → Option Nat
  | .sl _ _ n _ => some n
  | .nils => some 0
  | .emp _ => some 0
  | _ => none

def appendA (P : Program) (e : TypeId) (x : AV) (k : Nat) (new : List AV) (H : Heap) : Option (AV × Heap) :=
  match zcellsA P e, bytA P e with
  | some z, some b =>
    if new.length = k * z.length ∧ new.all AV.cell = true then
      match normCap H x with
      | .nils => if k = 0 then some (.nils, H) else if 0 < b ∧ k * b ≤ 70368744177664 ∧ k ≤ 70368744177664 then some (.sl H.next 0 k (.tail z.length), H.alloc (.row new .no e)) else none
      | .emp id => if k = 0 then some (.emp id, H) else none
      | .sl id off len (.exact n) =>
        if len + k ≤ n then
          if k = 0 then some (.sl id off len (.exact n), H) else (H.put id (off + len * z.length) new).map fun H' => (.sl id off (len + k) (.exact n), H')
        else if 0 < b ∧ (len + k) * b ≤ 70368744177664 ∧ len + k ≤ 70368744177664 then
          (if len = 0 then some [] else match H.cells id with
            | some cs => loadN cs off (len * z.length)
            | none => none).map fun old => (.sl H.next 0 (len + k) (.tail z.length), H.alloc (.row (old ++ new) .no e))
        else none
      | .sl id off len (.tail z') =>
        if off = 0 then
          match H.get id with
          | some (.row cs _ e') =>
            if z' = z.length ∧ e' = e ∧ len * z.length ≤ cs.length ∧ 0 < b ∧ (len + k) * b ≤ 70368744177664 ∧ len + k ≤ 70368744177664 then
              if k = 0 then some (.sl id 0 len (.tail z'), H)
              else if cs.length = len * z.length ∧ cs.all AV.cell = true then some (.sl H.next 0 (len + k) (.tail z.length), (H.set id none).alloc (.row (cs ++ new) .no e))
              else if (len + k) * z.length ≤ cs.length then (H.put id (len * z.length) new).map fun H' => (.sl id 0 (len + k) (.tail z'), H')
              else none
            else none
          | _ => none
        else none
      | _ => none
    else none
  | _, _ => none

def isIntT (P : Program) (t : TypeId) : Bool :=
  match P.underlying t with
  | some (.int _) => true
  | _ => false

def isSeqT (P : Program) (t : TypeId) : Bool :=
  match P.underlying t with
  | some (.slice _) | some .string => true
  | _ => false

def builtinA (P : Program) (b : Builtin) (argTypes : Array TypeId) (type : TypeId) (args : List AV) (H : Heap) : Option (AV × Heap) :=
  match b, argTypes.toList, args with
  | .append, [t, u], [x, y] => match elemA P t with
    | some e =>
      if isIntT P u then
        match y, zcellsA P e, bytA P e with
        | .int .i64 n, some z, some b => if 0 ≤ n ∧ n ≤ 70368744177664 ∧ n * b ≤ 70368744177664 then appendA P e x n.toNat (repeatL z n.toNat) H else none
        | _, _, _ => none
      else match lenA y, sizA P e, isSeqT P u with
        | some k, some s, true => match firstA s k y H with
          | some new => appendA P e x k new H
          | none => none
        | _, _, _ => none
    | none => none
  | .copy, t :: _, [x, y] => match elemA P t with
    | some e => match sizA P e, lenA x, lenA y with
      | some s, some m, some k => match firstA s (min k m) y H, x with
        | some new, .sl id off _ _ => if min k m = 0 then some (.int .i64 0, H) else (H.put id off new).map fun H' => (.int .i64 (min k m : Nat), H')
        | some _, .nils => some (.int .i64 0, H)
        | _, _ => none
      | _, _, _ => none
    | none => none
  | .len, [t], [x] => match P.underlying t, x with
    | some .string, .str s => some (.int .i64 s.size, H)
    | some (.array n _), _ => some (.int .i64 n, H)
    | some (.slice _), x => match x with
      | .sl _ _ n _ => some (.int .i64 n, H)
      | .nils => some (.int .i64 0, H)
      | .emp _ => some (.int .i64 0, H)
      | _ => none
    | some (.map _ _), .mp none => some (.int .i64 0, H)
    | some (.map _ _), .mp (some id) => match H.get id with
      | some (.map es) => some (.int .i64 es.length, H)
      | _ => none
    | _, _ => none
  | .min, _, [.int k a, .int _ c] => some (.int k (if c < a then c else a), H)
  | .max, _, [.int k a, .int _ c] => some (.int k (if c > a then c else a), H)
  | _, _, _ => none

def numsA : List AV → Option (List Int)
  | [] => some []
  | .int .u8 n :: l => (numsA l).map (n :: ·)
  | _ :: _ => none

def bytesStrA (P : Program) (e : TypeId) (x : AV) (H : Heap) : Option ByteArray :=
  match P.underlying e, lenSlA x with
  | some (.int .u8), some n => match firstA 1 n x H with
    | some l => match numsA l with
      | some ns => some ⟨(ns.map fun n => UInt8.ofNat n.toNat).toArray⟩
      | none => none
    | none => none
  | _, _ => none

def convertA (P : Program) (src dst : TypeId) (x : AV) (H : Heap) : Option (AV × Heap) :=
  match P.underlying src, P.underlying dst, x with
  | some _, some (.int k), .int _ n => some (.int k (k.wrap n), H)
  | some (.int _), some .string, .int _ n => some (.str (Utf8.encode n), H)
  | some .string, some .string, .str s => some (.str s, H)
  | some .string, some (.slice e), .str s => match P.underlying e, sizA P e with
    | some (.int .u8), some 1 => if s.size ≤ 70368744177664 then some (.sl H.next 0 s.size (.tail 1), H.alloc (.row (bytesAV s.data.toList) .no e)) else none
    | _, _ => none
  | some (.slice e), some .string, x => (bytesStrA P e x H).map fun s => (.str s, H)
  | some (.slice _), some (.slice e), .sl id off len c => match P.underlying e, H.get id with
    | some (.int .u8), some (.row cs f e') => if src = dst then some (.sl id off len c, H.set id (some (.row cs f.mark e'))) else none
    | _, _ => none
  | _, _, _ => none

/-! ### Maps -/
def findA (kd : PK) (k : AV) : List (AV × AV) → Option (Option AV)
  | [] => some none
  | (a, v) :: l => match eqPlain kd k a with
    | some true => some (some v)
    | some false => findA kd k l
    | none => none

def updA (kd : PK) (k v : AV) : List (AV × AV) → Option (List (AV × AV))
  | [] => some [(k, v)]
  | (a, u) :: l => match eqPlain kd k a with
    | some true => some ((k, v) :: l)
    | some false => (updA kd k v l).map ((a, u) :: ·)
    | none => none

/-- The kind of a type of keys. -/
def keyA (P : Program) (t : TypeId) : Option PK :=
  match P.underlying t with
  | some (.int _) => some .i
  | some .string => some .s
  | some .bool => some .b
  | _ => none

def entriesA (x : AV) (H : Heap) : Option (List (AV × AV)) :=
  match x with
  | .mp none => some []
  | .mp (some id) => match H.get id with
    | some (.map es) => some es
    | some (.rom es) => some es
    | _ => none
  | _ => none

def lookupA (P : Program) (t : TypeId) (x k : AV) (ok : Bool) (H : Heap) : Option AV :=
  match P.underlying t with
  | some (.map kt et) => match keyA P kt, zeroA P et, entriesA x H with
    | some kd, some z, some es => match findA kd k es with
      | some (some v) => some (if ok then .tup [v, .bool true] else v)
      | some none => some (if ok then .tup [z, .bool false] else z)
      | none => none
    | _, _, _ => none
  | _ => none

def mapUpdateA (P : Program) (t : TypeId) (x k v : AV) (H : Heap) : Option Heap :=
  match P.underlying t, x with
  | some (.map kt _), .mp (some id) => match keyA P kt, H.get id with
    | some kd, some (.map es) => match updA kd k v es with
      | some es' => some (H.set id (some (.map es')))
      | none => none
    | _, _ => none
  | _, _ => none

def rangeA (P : Program) (t : TypeId) (x : AV) (H : Heap) : Option (AV × Heap) :=
  match P.underlying t, x with
  | some .string, .str s => some (.ptr H.next 0, H.alloc (.sit s 0))
  | some (.map _ _), .mp none => some (.ptr H.next 0, H.alloc (.mit none 0 [] 0))
  | some (.map _ _), .mp (some id) => match H.get id with
    | some (.map es) => some (.ptr H.next 0, H.alloc (.mit (some id) es.length (List.range es.length) es.length))
    | _ => none
  | _, _ => none

def nextA (x : AV) (isString : Bool) (H : Heap) : Res (AV × Heap) :=
  match x with
  | .ptr id 0 => match H.get id, isString with
    | some (.sit s pos), true =>
      if pos < s.size then
        let c := Utf8.decode s pos
        .ret (.tup [.bool true, .int .i64 pos, .int .i32 c.1], H.set id (some (.sit s (pos + c.2))))
      else .ret (.tup [.bool false], H)
    | some (.mit none _ _ _), false => .ret (.tup [.bool false], H)
    | some (.mit (some m) n left at_), false => match H.get m with
      | some (.map es) =>
        if es.length = n then
          match left with
          | [] => .ret (.tup [.bool false], H)
          | left => .any left.length fun i => match left[i]? with
            | some j => match es[j]? with
              | some (k, v) => .ret (.tup [.bool true, k, v], H.set id (some (.mit (some m) n (left.eraseIdx i) j)))
              | none => .fail
            | none => .fail
        else .fail
      | _ => .fail
    | _, _ => .fail
  | _ => .fail

def entryA (x : AV) (H : Heap) : Option AV :=
  match x with
  | .ptr id 0 => match H.get id with
    | some (.mit (some m) n left at_) => match H.get m with
      | some (.map es) => if es.length = n then match es[at_]? with
          | some (k, v) => some (.tup [k, v])
          | none => none
        else none
      | _ => none
    | _ => none
  | _ => none

def extractA (x : AV) (i : Nat) : Option AV :=
  match x with
  | .tup l => l[i]?
  | _ => none

def nilCheckA (H : Heap) : AV → Option AV
  | .ptr id off => if H.live id then some (.ptr id off) else none
  | .gptr g off => some (.gptr g off)
  | .fn f a b => some (.fn f a b)
  | _ => none

/-- What Go's library has no body for. -/
def isNew (H : Heap) (id : Nat) : Bool :=
  match H.get id with
  | some (.row (_ :: _) .new _) => true
  | _ => false
def isFilled (H : Heap) (id : Nat) : Bool :=
  match H.get id with
  | some (.row (_ :: _) _ _) => true
  | _ => false

def extA (P : Program) (fn : Func) (args : List AV) (H : Heap) : Option (AV × Heap) :=
  match fn.name, args with
  | "slices.overlaps[uint16]", [.sl a _ _ _, .sl b _ _ _] => if a ≠ b ∧ isNew H a = true ∧ isFilled H b = true then some (.bool false, H) else none
  | "internal/bytealg.IndexByteString", [.str s, .int .u8 c] => some (.int .i64 (firstIdx s c.toNat.toUInt8), H)
  | _, _ => none

def junks : Nat → List AV
  | 0 => []
  | n + 1 => .junk :: junks n

/-- The capacity of a row that is not known in full: any that bears what is known. From here on the row is known in full, but for what stands in it. -/
def capA (P : Program) (t : TypeId) (x : AV) (H : Heap) : Res (AV × Heap) :=
  match P.underlying t, normCap H x with
  | some (.slice _), .sl _ _ _ (.exact n) => .ret (.int .i64 n, H)
  | some (.slice _), .nils => .ret (.int .i64 0, H)
  | some (.slice _), .sl id 0 len (.tail 1) => match H.get id with
    | some (.row cs _ e) => if len ≤ cs.length then .every fun d => .ret (.int .i64 ((d + cs.length : Nat) : Int), H.set id (some (.row (cs ++ junks d) .yes e))) else .fail
    | _ => .fail
  | _, _ => .fail

/-- An operation that isn't a call of a function: its value, and the heap behind it. -/
def opA (P : Program) (o : Oper) (regs : List AV) (H : Heap) : Res (AV × Heap) :=
  let e := evA regs
  let v (x : Option AV) : Res (AV × Heap) := ofO x fun x => .ret (x, H)
  let m (x : Option (AV × Heap)) : Res (AV × Heap) := ofO x .ret
  let u (x : Option Heap) : Res (AV × Heap) := ofO x fun H' => .ret (undefA, H')
  match o.op with
  | .move x | .assign x => v (e x)
  | .pick c a b => ofO (e c) fun c => match c with
    | .bool t => if t then v (e a) else v (e b)
    | _ => .fail
  | .alloc t => ofO (zeroA P t) fun z => m (newA t z.cells H)
  | .box t x => ofO (e x) fun x => m (newA t x.cells H)
  | .build t ps => ofO (evParts regs ps.toList) fun ps => v (buildA P t ps)
  | .buildSlice t n ps => ofO (evParts regs ps.toList) fun ps => m (buildSliceA P t n ps H)
  | .load t a => ofO (e a) fun a => v (loadA P t a H)
  | .store t a x => ofO (e a) fun a => ofO (e x) fun x => u (storeA P t a x H)
  | .nilCheck x => ofO (e x) fun x => v (nilCheckA H x)
  | .binOp op t x y _ => ofO (e x) fun a => ofO (e y) fun b => match vsNilA P op t H a b with
    | some r => .ret (r, H)
    | none => v (binA P op t x y a b)
  | .unOp op _ x => ofO (e x) fun x => v (unA op x)
  | .convert s d x => ofO (e x) fun x => m (convertA P s d x H)
  | .makeInterface t x => ofO (e x) fun x => match P.underlying t with
    | some (.interface _) => .fail
    | some _ => .ret (.iface t x, H)
    | none => .fail
  | .makeFunc (.func f) a c => ofO (evL regs a.toList) fun a => ofO (evL regs c.toList) fun c => .ret (.fn f a c, H)
  | .makeMap t none => .ret (.mp (some H.next), H.alloc (.map []))
  | .makeSlice t l c => ofO (e l) fun l => ofO (e c) fun c => m (makeSliceA P t l c H)
  | .slice t x lo hi mx => ofO (e x) fun x =>
    match lo.map e, hi.map e, mx.map e with
    | some none, _, _ | _, some none, _ | _, _, some none => .fail
    | lo, hi, mx => m (sliceA P t x lo.join hi.join mx.join H)
  | .fieldAddr t x i => ofO (e x) fun x => v (fieldAddrA P t x i H)
  | .field t x i => ofO (e x) fun x => v (fieldValA P t x i)
  | .indexAddr t x i => ofO (e x) fun x => ofO (e i) fun i => v (indexAddrA P t x i H)
  | .index t x i => ofO (e x) fun x => ofO (e i) fun i => v (indexA P t x i)
  | .lookup t x k ok => ofO (e x) fun x => ofO (e k) fun k => v (lookupA P t x k ok H)
  | .mapUpdate t x k w => ofO (e x) fun x => ofO (e k) fun k => ofO (e w) fun w => u (mapUpdateA P t x k w H)
  | .range t x => ofO (e x) fun x => m (rangeA P t x H)
  | .next it s => ofO (e it) fun it => nextA it s H
  | .entry it => ofO (e it) fun it => v (entryA it H)
  | .extract t i => ofO (e t) fun t => v (extractA t i)
  | .call { callee := .builtin .cap, args, argTypes } => ofO (evL regs args.toList) fun args => match argTypes.toList, args with
    | [t], [x] => capA P t x H
    | _, _ => .fail
  | .call { callee := .builtin b, args, argTypes } => ofO (evL regs args.toList) fun args => m (builtinA P b argTypes o.type args H)
  | _ => .fail

end Go.Proofs.YtlcfkeigipkhlaaGreatDoorAbs
