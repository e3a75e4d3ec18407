/- The abstract machine's run: code, regions in their orders, calls. No proof is told here. -/
import Derived.Test.YtlcfkeigipkhlaaGreatDoorDefs
import Derived.Orders
set_option linter.unusedVariables false
namespace Go.Proofs.YtlcfkeigipkhlaaGreatDoorAbs

/-! ### Regions -/
/-- What is done of an operation before its turn: it yields its value at once; it is carried out when it comes up; it only makes an object. -/
inductive PKind where
  | inert | hard | late

def isPtrFree (P : Program) (src dst : TypeId) : Bool :=
  match P.underlying dst, P.underlying src with
  | some (.int _), some (.int _) => true
  | _, _ => false

def kindA (P : Program) (o : Oper) : PKind :=
  match o.op with
  | .move _ | .assign _ | .pick _ _ _ | .build _ _ | .load _ _ | .nilCheck _ | .binOp _ _ _ _ _ | .unOp _ _ _ | .makeInterface _ _ | .slice _ _ _ _ _
  | .fieldAddr _ _ _ | .field _ _ _ | .indexAddr _ _ _ | .index _ _ _ | .lookup _ _ _ _ | .extract _ _ => .inert
  | .makeFunc (.func _) _ _ => .inert
  | .convert s d _ => if isPtrFree P s d then .inert else .hard
  | .call { callee := .builtin .len, argTypes, .. } => match argTypes.toList with
    | [t] => match P.underlying t with
      | some (.slice _) | some .string | some (.array _ _) => .inert
      | _ => .hard
    | _ => .hard
  | .alloc _ | .box _ _ | .buildSlice _ _ _ | .makeSlice _ _ _ => match o.guard with
    | none => .late
    | some _ => .hard
  | .makeMap _ none => match o.guard with
    | none => .late
    | some _ => .hard
  | _ => .hard

/-- What a maker makes: the object, and the value that names it. -/
def lateA (P : Program) (o : Oper) (regs : List AV) : Option (AObj × (Nat → AV)) :=
  match o.op with
  | .alloc t => match zeroA P t with
    | some z => if z.cells.all AV.cell then some (.row z.cells .new t, fun n => .ptr n 0) else none
    | none => none
  | .box t x => match evA regs x with
    | some v => if v.cells.all AV.cell then some (.row v.cells .new t, fun n => .ptr n 0) else none
    | none => none
  | .buildSlice t len ps => match evParts regs ps.toList, elemA P t with
    | some parts, some e => match zcellsA P e with
      | some z =>
        if len * z.length ≤ 16777216 then
          match fillA (fun i => some (i * z.length, z.length)) (repeatL z len) parts with
          | some cs => if cs.all AV.cell then some (.row cs .new e, fun n => .sl n 0 len (.exact len)) else none
          | none => none
        else none
      | none => none
    | _, _ => none
  | .makeSlice t l c => match evA regs l, evA regs c, elemA P t with
    | some (.int _ l), some (.int _ c), some e => match zcellsA P e, bytA P e with
      | some z, some b =>
        if 0 ≤ l ∧ l ≤ c ∧ (b : Int) * c ≤ 281474976710656 ∧ c ≤ 9223372036854775807 then some (.row (repeatL z c.toNat) .new e, fun n => .sl n 0 l.toNat (.exact c.toNat)) else none
      | _, _ => none
    | _, _, _ => none
  | .makeMap t none => some (.map [], fun n => .mp (some n))
  | _ => none

/-- A set of numbers, as a number. -/
def predM (o : Oper) : Nat := o.after.toList.foldl (fun m e => if Region.binds .any e then m ||| (1 <<< e.on) else m) 0

/-- The operations with their numbers and whom they wait for. -/
def numbered : Nat → List Oper → List (Nat × Nat × Oper)
  | _, [] => []
  | i, o :: l => (i, predM o, o) :: numbered (i + 1) l

def hasM (m i : Nat) : Bool := m.testBit i
def addM (m i : Nat) : Nat := m ||| (1 <<< i)

def readyM (l : List (Nat × Nat × Oper)) (m : Nat) : List (Nat × Nat × Oper) := l.filter fun x => !hasM m x.1 && (x.2.1 &&& m == x.2.1)

def freeM (ops : Array Oper) (l : List (Nat × Nat × Oper)) (m : Nat) (x : Nat × Nat × Oper) : Bool :=
  l.all fun y => y.1 == x.1 || hasM m y.1 || hasM y.2.1 x.1 || x.2.2.apart ops y.2.2

def isInert (P : Program) (x : Nat × Nat × Oper) : Bool :=
  match kindA P x.2.2 with
  | .inert => true
  | _ => false
def isLate (P : Program) (x : Nat × Nat × Oper) : Bool :=
  match kindA P x.2.2 with
  | .late => true
  | _ => false

structure PStep where
  num : Nat
  pre : Nat
  op : Oper
  kind : PKind
  /-- The makers of objects that may come up at once. -/
  lates : List Oper

def planA (P : Program) (ops : Array Oper) (l : List (Nat × Nat × Oper)) : Nat → Nat → Option (List PStep)
  | 0, m => match readyM l m with
    | [] => some []
    | _ => none
  | n + 1, m =>
    let r := readyM l m
    match r.find? fun x => isInert P x && freeM ops l m x with
    | some x => (planA P ops l n (addM m x.1)).map (⟨x.1, x.2.1, x.2.2, .inert, []⟩ :: ·)
    | none =>
      let ls := r.filter fun x => isLate P x && freeM ops l m x
      match readyM l (ls.foldl (fun m x => addM m x.1) m) with
      | rs =>
        let hs := rs.filter fun x => r.any fun y => y.1 == x.1
        match hs, rs with
        | [_], [x] => if isLate P x then none else (planA P ops l n (addM m x.1)).map (⟨x.1, x.2.1, x.2.2, .hard, ls.map (·.2.2)⟩ :: ·)
        | [], rs => match ls with
          | x :: _ => if rs.all fun y => hasM y.2.1 x.1 then (planA P ops l n (addM m x.1)).map (⟨x.1, x.2.1, x.2.2, .late, ls.map (·.2.2)⟩ :: ·) else none
          | [] => match r with
            | [] => some []
            | _ => none
        | _, _ => none

/-- What has been read ahead: it must still stand there behind each operation that does not wait for the reading. -/
inductive Hold where
  | load (i : Nat) (t : TypeId) (a v : AV)
  | look (i : Nat) (t : TypeId) (x k : AV) (ok : Bool) (v : AV)

def Hold.num : Hold → Nat
  | .load i _ _ _ => i
  | .look i _ _ _ _ _ => i

def Hold.now (P : Program) (H : Heap) : Hold → Option AV
  | .load _ t a _ => loadA P t a H
  | .look _ t x k ok _ => lookupA P t x k ok H
def Hold.val : Hold → AV
  | .load _ _ _ v => v
  | .look _ _ _ _ _ v => v
def Hold.holds (P : Program) (H : Heap) : Hold → Prop
  | .load _ t a v => loadA P t a H = some v
  | .look _ t x k ok v => lookupA P t x k ok H = some v

def holdOf (i : Nat) (o : Oper) (regs : List AV) (v : AV) : Option Hold :=
  match o.op with
  | .load t a => match evA regs a with
    | some a => some (.load i t a v)
    | none => none
  | .lookup t x k ok => match evA regs x, evA regs k with
    | some x, some k => some (.look i t x k ok v)
    | _, _ => none
  | _ => none

def needAll (P : Program) (H : Heap) (hs : List Hold) (r : Res (AV × Heap)) : Res (AV × Heap) :=
  match hs with
  | [] => r
  | h :: hs => .need (h.now P H) (some h.val) (needAll P H hs r)

/-- Is the operation wanted? -/
def wantedA (ops : Array Oper) (o : Oper) (regs : List AV) : Option Bool :=
  match o.guard with
  | none => some true
  | some (j, want) => match (ops[j]?).bind (·.dst) with
    | none => none
    | some d => match regs[d]? with
      | some (.bool b) => some (b == want)
      | some (.tup []) => some false
      | _ => none

/-- One operation, and on. -/
def stepA (P : Program) (call : FuncId → List AV → M) (ops : Array Oper) (o : Oper) (regs : List AV) (K : AV → M) : M := fun H =>
  match wantedA ops o regs with
  | some true =>
    match o.op with
    | .call { callee := .value f, args, .. } => ofO (evA regs f) fun f => match f with
      | .fn g first caps => ofO (evL regs args.toList) fun as => (call g (first ++ as ++ caps) H).bind fun r => K r.1 r.2
      | _ => .fail
    | _ => (opA P o regs H).bind fun r => K r.1 r.2
  | some false => K undefA H
  | none => .fail

def opsA (P : Program) (call : FuncId → List AV → M) (ops : Array Oper) : List Oper → List AV → (List AV → M) → M
  | [], regs, K => K regs
  | o :: rest, regs, K => stepA P call ops o regs fun v => opsA P call ops rest (putA regs o.dst v) K

def planK (P : Program) (call : FuncId → List AV → M) (ops : Array Oper) : List PStep → List Hold → List AV → (List AV → M) → M
  | [], _, regs, K => K regs
  | s :: rest, hs, regs, K =>
    match s.kind with
    | .inert => stepA P call ops s.op regs fun v => planK P call ops rest (match wantedA ops s.op regs, holdOf s.num s.op regs v with
      | some true, some h => h :: hs
      | _, _ => hs) (putA regs s.op.dst v) K
    | .late => match s.lates.all fun o => (lateA P o regs).isSome with
      | true => stepA P call ops s.op regs fun v => planK P call ops rest hs (putA regs s.op.dst v) K
      | false => fun _ => .fail
    | .hard => match s.lates.all fun o => (lateA P o regs).isSome with
      | true => stepA P call ops s.op regs fun v H =>
        let hs' := hs.filter fun h => !hasM s.pre h.num
        needAll P H hs' (planK P call ops rest hs' (putA regs s.op.dst v) K H)
      | false => fun _ => .fail

/-- What the makers of objects will put is not known until they have put it. -/
def forget (P : Program) (regs : List AV) : List (Nat × Nat × Oper) → List AV
  | [] => regs
  | x :: l => match isLate P x with
    | true => forget P (putA regs x.2.2.dst .junk) l
    | false => forget P regs l

/-- What a maker of an object puts where nobody else does. -/
def uniqDst (P : Program) (l : List (Nat × Nat × Oper)) : Bool := l.all fun x => !isLate P x || l.all fun y => y.1 == x.1 || y.2.2.dst != x.2.2.dst

def regA (P : Program) (call : FuncId → List AV → M) (ops : Array Oper) (draw : Bool) (regs : List AV) (K : List AV → M) : M :=
  match draw with
  | false => opsA P call ops ops.toList regs K
  | true => match planA P ops (numbered 0 ops.toList) ops.size 0 with
    | some pl => match P.follows .mixedOrders && Region.noSelect ops && uniqDst P (numbered 0 ops.toList) with
      | true => planK P call ops pl [] (forget P regs (numbered 0 ops.toList)) K
      | false => fun _ => .fail
    | none => fun _ => .fail

/-! ### Code -/
inductive AExit where
  | norm
  | exit (id : Nat)
  | ret

/-- Marks for a code: which registers are kept (as the bits of a number) ahead of the second half of a sequence, and ahead of each round of a loop. -/
inductive Ann where
  | nil
  | two (keep : Option Nat) (a b : Ann)

def Ann.l : Ann → Ann
  | .nil => .nil
  | .two _ a _ => a
def Ann.r : Ann → Ann
  | .nil => .nil
  | .two _ _ b => b
def Ann.k : Ann → Option Nat
  | .nil => none
  | .two k _ _ => k

def keepFrom (m : Nat) : Nat → List AV → List AV
  | _, [] => []
  | i, v :: l => (match m.testBit i with
    | true => v
    | false => .junk) :: keepFrom m (i + 1) l

def keepA (k : Option Nat) (regs : List AV) : List AV :=
  match k with
  | none => regs
  | some m => keepFrom m 0 regs

def loopA (body : List AV → (AExit → List AV → M) → M) (k : Option Nat) : Nat → List AV → (AExit → List AV → M) → M
  | 0, _, _ => fun _ => .fail
  | n + 1, regs, K => body (keepA k regs) fun x r => match x with
    | .norm => loopA body k n r K
    | x => K x r

def codeA (P : Program) (call : FuncId → List AV → M) (n : Nat) : Code → Ann → List AV → (AExit → List AV → M) → M
  | .skip, _, regs, K => K .norm regs
  | .region _ ops draw, _, regs, K => regA P call ops draw regs (K .norm)
  | .seq a b, t, regs, K => codeA P call n a t.l regs fun x r => match x with
    | .norm => codeA P call n b t.r (keepA t.k r) K
    | x => K x r
  | .cond c a b, t, regs, K => fun H => ofO (evA regs c) fun v => match v with
    | .bool true => codeA P call n a t.l regs K H
    | .bool false => codeA P call n b t.r regs K H
    | _ => .fail
  | .block id c, t, regs, K => codeA P call n c t regs fun x r => match x with
    | .exit j => match Nat.beq j id with
      | true => K .norm r
      | false => K (.exit j) r
    | x => K x r
  | .loop c, t, regs, K => loopA (codeA P call n c t.l) t.k n regs K
  | .scope c, t, regs, K => codeA P call n c t regs K
  | .exit id, _, regs, K => K (.exit id) regs
  | .ret, _, regs, K => K .ret regs
  | _, _, _, _ => fun _ => .fail

/-! ### Calls -/
def resL (P : Program) (regs : List AV) (H : Heap) : List ResultVar → Option (List AV)
  | [] => some []
  | .tmp t :: l => match evA regs (.tmp t), resL P regs H l with
    | some v, some vs => some (v :: vs)
    | _, _ => none
  | .cell a t :: l => match (evA regs (.tmp a)).bind fun a => loadA P t a H, resL P regs H l with
    | some v, some vs => some (v :: vs)
    | _, _ => none

def resA (P : Program) (fn : Func) (regs : List AV) (H : Heap) : Option AV :=
  match resL P regs H fn.results.toList with
  | some [v] => some v
  | some vs => some (.tup vs)
  | none => none

/-- How what is named is run: by what is known of it ('sum'); else what has a body runs it; what has none is told by 'ext'. -/
structure Lib where
  ann : FuncId → Ann
  sum : FuncId → Option (List AV → M)
  ext : Func → List AV → M

def callA (P : Program) (L : Lib) : Nat → FuncId → List AV → M
  | 0, _, _ => fun _ => .fail
  | n + 1, f, args =>
    match L.sum f with
    | some m => m args
    | none => match P.funcs[f]? with
      | none => fun _ => .fail
      | some fn => match fn.body with
        | some c => codeA P (callA P L n) n c (L.ann f) (args ++ junks (fn.ntmps - args.length)) fun x regs H => match x with
          | .exit _ => .fail
          | _ => ofO (resA P fn regs H) fun v => .ret (v, H)
        | none => L.ext fn args

end Go.Proofs.YtlcfkeigipkhlaaGreatDoorAbs
