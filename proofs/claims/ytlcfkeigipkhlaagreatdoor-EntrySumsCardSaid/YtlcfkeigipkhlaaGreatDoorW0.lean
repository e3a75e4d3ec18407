/- Words in which a function's code is told, register by register; each is what the abstract machine does. -/
import Derived.Test.YtlcfkeigipkhlaaGreatDoorExt
import Derived.KernelRfl
set_option linter.unusedVariables false
set_option linter.unusedSimpArgs false
namespace Go.Proofs.YtlcfkeigipkhlaaGreatDoorAbs
variable {P : Program}

/-! ### Registers by a list of those that are known -/
def getL : List (Nat × AV) → Nat → AV
  | [], _ => .junk
  | (i, v) :: l, k => match Nat.beq i k with
    | true => v
    | false => getL l k
def rgFrom (l : List (Nat × AV)) : Nat → Nat → List AV
  | _, 0 => []
  | i, n + 1 => getL l i :: rgFrom l (i + 1) n
def rg (n : Nat) (l : List (Nat × AV)) : List AV := rgFrom l 0 n

/-! ### Continuations -/
def seqK (J : List AV → M) (K : AExit → List AV → M) : AExit → List AV → M := fun x r => match x with
  | .norm => J r
  | x => K x r
def blkK (id : Nat) (K : AExit → List AV → M) : AExit → List AV → M := fun x r => match x with
  | .exit j => match Nat.beq j id with
    | true => K .norm r
    | false => K (.exit j) r
  | x => K x r
def lopK (body : List AV → (AExit → List AV → M) → M) (k : Option Nat) (n : Nat) (K : AExit → List AV → M) : AExit → List AV → M := fun x r => match x with
  | .norm => loopA body k n r K
  | x => K x r
theorem seqK_norm {J : List AV → M} {K : AExit → List AV → M} {r : List AV} {H : Heap} : seqK J K .norm r H = J r H := rfl
theorem seqK_exit {J : List AV → M} {K : AExit → List AV → M} {r : List AV} {H : Heap} {j : Nat} : seqK J K (.exit j) r H = K (.exit j) r H := rfl
theorem seqK_ret {J : List AV → M} {K : AExit → List AV → M} {r : List AV} {H : Heap} : seqK J K .ret r H = K .ret r H := rfl
theorem blkK_norm {id : Nat} {K : AExit → List AV → M} {r : List AV} {H : Heap} : blkK id K .norm r H = K .norm r H := rfl
theorem blkK_ret {id : Nat} {K : AExit → List AV → M} {r : List AV} {H : Heap} : blkK id K .ret r H = K .ret r H := rfl
theorem blkK_same {id : Nat} {K : AExit → List AV → M} {r : List AV} {H : Heap} : blkK id K (.exit id) r H = K .norm r H := by
  show (match Nat.beq id id with | true => K .norm r | false => K (.exit id) r) H = _
  rw [Nat.beq_refl]
theorem blkK_other {id j : Nat} (h : Nat.beq j id = false) {K : AExit → List AV → M} {r : List AV} {H : Heap} : blkK id K (.exit j) r H = K (.exit j) r H := by
  show (match Nat.beq j id with | true => K .norm r | false => K (.exit j) r) H = _
  rw [h]
theorem lopK_norm {body : List AV → (AExit → List AV → M) → M} {k : Option Nat} {n : Nat} {K : AExit → List AV → M} {r : List AV} {H : Heap} : lopK body k n K .norm r H = loopA body k n r K H := rfl
theorem lopK_exit {body : List AV → (AExit → List AV → M) → M} {k : Option Nat} {n : Nat} {K : AExit → List AV → M} {r : List AV} {H : Heap} {j : Nat} : lopK body k n K (.exit j) r H = K (.exit j) r H := rfl
theorem lopK_ret {body : List AV → (AExit → List AV → M) → M} {k : Option Nat} {n : Nat} {K : AExit → List AV → M} {r : List AV} {H : Heap} : lopK body k n K .ret r H = K .ret r H := rfl

/-! ### Pieces of code -/
def cfst : Code → Code
  | .seq a _ => a
  | .cond _ a _ => a
  | .block _ a => a
  | .loop a => a
  | .scope a => a
  | c => c
def csnd : Code → Code
  | .seq _ b => b
  | .cond _ _ b => b
  | c => c

/-! ### Operations -/
def bd (r : Res (AV × Heap)) (K : AV → M) : Res (AV × Heap) := r.bind fun r => K r.1 r.2
def allO : List (Option AV) → Option (List AV)
  | [] => some []
  | x :: l => match x, allO l with
    | some a, some as => some (a :: as)
    | _, _ => none
def prtO : List (Nat × Option AV) → Option (List (Nat × AV))
  | [] => some []
  | (i, x) :: l => match x, prtO l with
    | some a, some as => some ((i, a) :: as)
    | _, _ => none

section
variable (x y z : Option AV)
def mvK (K : AV → M) : M := fun H => bd (ofO x fun x => .ret (x, H)) K
def pickK (K : AV → M) : M := fun H => bd (ofO x fun c => match c with
    | .bool t => if t then ofO y (fun x => .ret (x, H)) else ofO z (fun x => .ret (x, H))
    | _ => .fail) K
def alcK (t : TypeId) (cs : List AV) (K : AV → M) : M := fun H => bd (ofO (newA t cs H) .ret) K
def boxK (t : TypeId) (K : AV → M) : M := fun H => bd (ofO x fun x => ofO (newA t x.cells H) .ret) K
/-- P-free forms: what is read off the tables stands in them. -/
def bldZ (pl : List (Nat × Nat)) (z : List AV) (ps : List (Nat × Option AV)) (K : AV → M) : M := fun H => bd (ofO (prtO ps) fun ps => ofO ((fillA (fun i => pl[i]?) z ps).map .agg) fun x => .ret (x, H)) K
def bldY (s : Nat) (z : List AV) (ps : List (Nat × Option AV)) (K : AV → M) : M := fun H => bd (ofO (prtO ps) fun ps => ofO ((fillA (fun i => some (i * s, s)) z ps).map .agg) fun x => .ret (x, H)) K
def bslA (e : TypeId) (z : List AV) (len : Nat) (parts : List (Nat × AV)) (H : Heap) : Option (AV × Heap) :=
      if len * z.length ≤ 16777216 then
        match fillA (fun i => some (i * z.length, z.length)) (repeatL z len) parts with
        | some cs => if cs.all AV.cell then some (.sl H.next 0 len (.exact len), H.alloc (.row cs .new e)) else none
        | none => none
      else none
def bslZ (e : TypeId) (z : List AV) (n : Nat) (ps : List (Nat × Option AV)) (K : AV → M) : M := fun H => bd (ofO (prtO ps) fun ps => ofO (bslA e z n ps H) .ret) K
def mslA (e : TypeId) (z : List AV) (b : Nat) (l c : AV) (H : Heap) : Option (AV × Heap) :=
  match l, c with
  | .int _ l, .int _ c =>
      if 0 ≤ l ∧ l ≤ c ∧ (b : Int) * c ≤ 281474976710656 ∧ c ≤ 9223372036854775807 then some (.sl H.next 0 l.toNat (.exact c.toNat), H.alloc (.row (repeatL z c.toNat) .new e)) else none
  | _, _ => none
def mslZ (e : TypeId) (z : List AV) (b : Nat) (K : AV → M) : M := fun H => bd (ofO x fun l => ofO y fun c => ofO (mslA e z b l c H) .ret) K
def cutS (s : Nat) (x : AV) (lo hi mx : Option AV) (H : Heap) : Option (AV × Heap) :=
    match normCap H x with
    | .nils => match boundA lo 0, boundA hi 0, boundA mx 0 with
      | some 0, some 0, some 0 => if mx.isSome = true → hi.isSome = true then some (.nils, H) else none
      | _, _, _ => none
    | .emp id => match boundA lo 0, boundA hi 0, mx with
      | some 0, some 0, none => some (.emp id, H)
      | _, _, _ => none
    | .sl id off len cap =>
      match boundA lo 0, boundA hi len, H.cells id with
      | some l, some h, some cs =>
        if off + len * s ≤ cs.length ∧ off < cs.length ∧ 0 < s then
          match mx with
          | some m => match boundA (some m) 0 with
            | some m => if l = 0 ∧ hi.isSome = true ∧ h ≤ m ∧ m ≤ len ∧ cap.may H id m s = true then some (.sl id off h (.exact m), H) else none
            | none => none
          | none =>
            match cap with
            | .exact n =>
              if l = 0 then (if h ≤ n then some (.sl id off h (.exact n), H) else none)
              else if l ≤ h ∧ h ≤ len ∧ len ≤ n then
                (if l < len then some (.sl id (off + l * s) (h - l) (.exact (n - l)), H) else some (.emp H.next, { H with next := H.next + 1 }))
              else none
            | .tail z =>
              if z = s ∧ H.isRow id = true ∧ l ≤ h ∧ h ≤ len then
                if l = 0 then some (.sl id off h (.tail z), H)
                else if l < len then some (.sl id (off + l * s) (h - l) (.tail z), H) else some (.emp H.next, { H with next := H.next + 1 })
              else none
        else if off + len * s ≤ cs.length ∧ l = 0 ∧ h = 0 ∧ mx.isNone = true then
          match cap with
          | .exact n => some (.sl id off 0 (.exact n), H)
          | .tail _ => none
        else none
      | _, _, _ => none
    | _ => none
def cutZ (s : Nat) (lo hi mx : Option (Option AV)) (K : AV → M) : M := fun H => bd (ofO x fun x =>
    match lo, hi, mx with
    | some none, _, _ | _, some none, _ | _, _, some none => .fail
    | lo, hi, mx => ofO (cutS s x lo.join hi.join mx.join H) .ret) K
def fv1A (off : Nat) (x : AV) : Option AV := match x with
  | .agg cs => cs[off]?
  | _ => none
def fvNA (off n : Nat) (x : AV) : Option AV := match x with
  | .agg cs => if off + n ≤ cs.length then some (.agg ((cs.drop off).take n)) else none
  | _ => none
def fv1Z (off : Nat) (K : AV → M) : M := fun H => bd (ofO x fun x => ofO (fv1A off x) fun x => .ret (x, H)) K
def fvNZ (off n : Nat) (K : AV → M) : M := fun H => bd (ofO x fun x => ofO (fvNA off n x) fun x => .ret (x, H)) K
def idxS (s : Nat) (x i : AV) (H : Heap) : Option AV := match i with
  | .int _ i => match x with
    | .sl id off len _ => match H.cells id with
      | some cs => if 0 ≤ i ∧ i < len ∧ 0 < s ∧ off + len * s ≤ cs.length then some (.ptr id (off + i.toNat * s)) else none
      | none => none
    | _ => none
  | _ => none
def idxR (n s : Nat) (x i : AV) (H : Heap) : Option AV := match i with
  | .int _ i => if 0 ≤ i ∧ i < n then addA H x (i.toNat * s) else none
  | _ => none
def idxZ (s : Nat) (K : AV → M) : M := fun H => bd (ofO x fun x => ofO y fun i => ofO (idxS s x i H) fun x => .ret (x, H)) K
def idxY (n s : Nat) (K : AV → M) : M := fun H => bd (ofO x fun x => ofO y fun i => ofO (idxR n s x i H) fun x => .ret (x, H)) K
def ixvA (x i : AV) : Option AV := match x, i with
  | .str s, .int _ i => if 0 ≤ i then (s.data.toList[i.toNat]?).map (fun b => .int .u8 b.toNat) else none
  | _, _ => none
def ixvZ (K : AV → M) : M := fun H => bd (ofO x fun x => ofO y fun i => ofO (ixvA x i) fun x => .ret (x, H)) K
def lokA (kd : PK) (z x k : AV) (ok : Bool) (H : Heap) : Option AV := match entriesA x H with
  | some es => match findA kd k es with
      | some (some v) => some (if ok then .tup [v, .bool true] else v)
      | some none => some (if ok then .tup [z, .bool false] else z)
      | none => none
  | none => none
def lokZ (kd : PK) (z : AV) (ok : Bool) (K : AV → M) : M := fun H => bd (ofO x fun x => ofO y fun k => ofO (lokA kd z x k ok H) fun x => .ret (x, H)) K
def updM (kd : PK) (x k v : AV) (H : Heap) : Option Heap := match x with
  | .mp (some id) => match H.get id with
    | some (.map es) => match updA kd k v es with
      | some es' => some (H.set id (some (.map es')))
      | none => none
    | _ => none
  | _ => none
def updZ (kd : PK) (K : AV → M) : M := fun H => bd (ofO x fun x => ofO y fun k => ofO z fun w => ofO (updM kd x k w H) fun H' => .ret (undefA, H')) K
def rngM (x : AV) (H : Heap) : Option (AV × Heap) := match x with
  | .mp none => some (.ptr H.next 0, H.alloc (.mit none 0 [] 0))
  | .mp (some id) => match H.get id with
    | some (.map es) => some (.ptr H.next 0, H.alloc (.mit (some id) es.length (List.range es.length) es.length))
    | _ => none
  | _ => none
def rngT (x : AV) (H : Heap) : Option (AV × Heap) := match x with
  | .str s => some (.ptr H.next 0, H.alloc (.sit s 0))
  | _ => none
def rngZ (K : AV → M) : M := fun H => bd (ofO x fun x => ofO (rngM x H) .ret) K
def rngY (K : AV → M) : M := fun H => bd (ofO x fun x => ofO (rngT x H) .ret) K
def cnvI (k : IntKind) (x : AV) (H : Heap) : Option (AV × Heap) := match x with
  | .int _ n => some (.int k (k.wrap n), H)
  | _ => none
def cnvZ (k : IntKind) (K : AV → M) : M := fun H => bd (ofO x fun x => ofO (cnvI k x H) .ret) K
def lenS (args : List AV) (H : Heap) : Option (AV × Heap) := match args with
  | [x] => match x with
      | .sl _ _ n _ => some (.int .i64 n, H)
      | .nils => some (.int .i64 0, H)
      | .emp _ => some (.int .i64 0, H)
      | _ => none
  | _ => none
def lenT (args : List AV) (H : Heap) : Option (AV × Heap) := match args with
  | [x] => match x with
      | .str s => some (.int .i64 s.size, H)
      | _ => none
  | _ => none
def lenR (n : Nat) (args : List AV) (H : Heap) : Option (AV × Heap) := match args with
  | [_] => some (.int .i64 n, H)
  | _ => none
def lenM (args : List AV) (H : Heap) : Option (AV × Heap) := match args with
  | [x] => match x with
      | .mp none => some (.int .i64 0, H)
      | .mp (some id) => match H.get id with
        | some (.map es) => some (.int .i64 es.length, H)
        | _ => none
      | _ => none
  | _ => none
def lenSZ (K : AV → M) : M := fun H => bd (ofO (allO [x]) fun args => ofO (lenS args H) .ret) K
def lenTZ (K : AV → M) : M := fun H => bd (ofO (allO [x]) fun args => ofO (lenT args H) .ret) K
def lenRZ (n : Nat) (K : AV → M) : M := fun H => bd (ofO (allO [x]) fun args => ofO (lenR n args H) .ret) K
def lenMZ (K : AV → M) : M := fun H => bd (ofO (allO [x]) fun args => ofO (lenM args H) .ret) K
def appA (e : TypeId) (z : List AV) (b : Nat) (x : AV) (k : Nat) (new : List AV) (H : Heap) : Option (AV × Heap) :=
    if new.length = k * z.length ∧ new.all AV.cell = true then
      match normCap H x with
      | .nils => if k = 0 then some (.nils, H) else if 0 < b ∧ k * b ≤ 70368744177664 ∧ k ≤ 70368744177664 then some (.sl H.next 0 k (.tail z.length), H.alloc (.row new .no e)) else none
      | .emp id => if k = 0 then some (.emp id, H) else none
      | .sl id off len (.exact n) =>
        if len + k ≤ n then
          if k = 0 then some (.sl id off len (.exact n), H) else (H.put id (off + len * z.length) new).map fun H' => (.sl id off (len + k) (.exact n), H')
        else if 0 < b ∧ (len + k) * b ≤ 70368744177664 ∧ len + k ≤ 70368744177664 then
          (if len = 0 then some [] else match H.cells id with
            | some cs => loadN cs off (len * z.length)
            | none => none).map fun old => (.sl H.next 0 (len + k) (.tail z.length), H.alloc (.row (old ++ new) .no e))
        else none
      | .sl id off len (.tail z') =>
        if off = 0 then
          match H.get id with
          | some (.row cs _ e') =>
            if z' = z.length ∧ e' = e ∧ len * z.length ≤ cs.length ∧ 0 < b ∧ (len + k) * b ≤ 70368744177664 ∧ len + k ≤ 70368744177664 then
              if k = 0 then some (.sl id 0 len (.tail z'), H)
              else if cs.length = len * z.length ∧ cs.all AV.cell = true then some (.sl H.next 0 (len + k) (.tail z.length), (H.set id none).alloc (.row (cs ++ new) .no e))
              else if (len + k) * z.length ≤ cs.length then (H.put id (len * z.length) new).map fun H' => (.sl id 0 (len + k) (.tail z'), H')
              else none
            else none
          | _ => none
        else none
      | _ => none
    else none
def appC (e s : Nat) (z : List AV) (b : Nat) (x y : AV) (K : AV → M) : M := fun H => match lenA y with
    | some k => match firstA s k y H with
      | some new => match appA e z b x k new H with
        | some r => K r.1 r.2
        | none => .fail
      | none => .fail
    | none => .fail
def cpyC (s : Nat) (x y : AV) (K : AV → M) : M := fun H => match lenA x with
    | some m => match lenA y with
      | some k => match firstA s (min k m) y H, x with
        | some new, .sl id off _ _ => if min k m = 0 then K (.int .i64 0) H else match H.put id off new with
          | some H' => K (.int .i64 (min k m : Nat)) H'
          | none => .fail
        | some _, .nils => K (.int .i64 0) H
        | _, _ => .fail
      | none => .fail
    | none => .fail
def capS (x : AV) (H : Heap) : Res (AV × Heap) := match normCap H x with
  | .sl _ _ _ (.exact n) => .ret (.int .i64 n, H)
  | .nils => .ret (.int .i64 0, H)
  | .sl id 0 len (.tail 1) => match H.get id with
    | some (.row cs _ e) => if len ≤ cs.length then .every fun d => .ret (.int .i64 ((d + cs.length : Nat) : Int), H.set id (some (.row (cs ++ junks d) .yes e))) else .fail
    | _ => .fail
  | _ => .fail
def capZ (K : AV → M) : M := fun H => bd (ofO (allO [x]) fun args => match args with
    | [x] => capS x H
    | _ => .fail) K
def bldK (P : Program) (t : TypeId) (ps : List (Nat × Option AV)) (K : AV → M) : M := fun H => bd (ofO (prtO ps) fun ps => ofO (buildA P t ps) fun x => .ret (x, H)) K
def bslK (P : Program) (t : TypeId) (n : Nat) (ps : List (Nat × Option AV)) (K : AV → M) : M := fun H => bd (ofO (prtO ps) fun ps => ofO (buildSliceA P t n ps H) .ret) K
def ld1K (K : AV → M) : M := fun H => bd (ofO x fun a => ofO (ld1 a H) fun x => .ret (x, H)) K
def ldK (n : Nat) (K : AV → M) : M := fun H => bd (ofO x fun a => ofO (ldA n a H) fun x => .ret (x, H)) K
def stoA (n : Nat) (a v : AV) (H : Heap) : Option Heap :=
  match a with
  | .ptr id off => if v.cells.length = n then H.put id off v.cells else none
  | _ => none
def stK (n : Nat) (K : AV → M) : M := fun H => bd (ofO x fun a => ofO y fun v => ofO (stoA n a v H) fun H' => .ret (undefA, H')) K
def nilK (K : AV → M) : M := fun H => bd (ofO x fun x => ofO (nilCheckA H x) fun x => .ret (x, H)) K
def binK (P : Program) (op : BinOp) (t : TypeId) (xo yo : Operand) (K : AV → M) : M := fun H => bd (ofO x fun a => ofO y fun b => match vsNilA P op t H a b with
    | some r => .ret (r, H)
    | none => ofO (binA P op t xo yo a b) fun x => .ret (x, H)) K
def unK (op : UnOp) (K : AV → M) : M := fun H => bd (ofO x fun x => ofO (unA op x) fun x => .ret (x, H)) K
def cnvK (P : Program) (s d : TypeId) (K : AV → M) : M := fun H => bd (ofO x fun x => ofO (convertA P s d x H) .ret) K
def mkiK (t : TypeId) (K : AV → M) : M := fun H => bd (ofO x fun x => .ret (.iface t x, H)) K
def fnK (f : FuncId) (a c : List (Option AV)) (K : AV → M) : M := fun H => bd (ofO (allO a) fun a => ofO (allO c) fun c => .ret (.fn f a c, H)) K
def mapK (K : AV → M) : M := fun H => bd (.ret (.mp (some H.next), H.alloc (.map []))) K
def mslK (P : Program) (t : TypeId) (K : AV → M) : M := fun H => bd (ofO x fun l => ofO y fun c => ofO (makeSliceA P t l c H) .ret) K
def cutK (P : Program) (t : TypeId) (lo hi mx : Option (Option AV)) (K : AV → M) : M := fun H => bd (ofO x fun x =>
    match lo, hi, mx with
    | some none, _, _ | _, some none, _ | _, _, some none => .fail
    | lo, hi, mx => ofO (sliceA P t x lo.join hi.join mx.join H) .ret) K
def falK (K : AV → M) : M := fun H => bd .fail K
def fldK (k : Nat) (K : AV → M) : M := fun H => bd (ofO x fun x => ofO (addA H x k) fun x => .ret (x, H)) K
def fvlK (P : Program) (t : TypeId) (i : Nat) (K : AV → M) : M := fun H => bd (ofO x fun x => ofO (fieldValA P t x i) fun x => .ret (x, H)) K
def idxK (P : Program) (t : TypeId) (K : AV → M) : M := fun H => bd (ofO x fun x => ofO y fun i => ofO (indexAddrA P t x i H) fun x => .ret (x, H)) K
def ixvK (P : Program) (t : TypeId) (K : AV → M) : M := fun H => bd (ofO x fun x => ofO y fun i => ofO (indexA P t x i) fun x => .ret (x, H)) K
def lokK (P : Program) (t : TypeId) (ok : Bool) (K : AV → M) : M := fun H => bd (ofO x fun x => ofO y fun k => ofO (lookupA P t x k ok H) fun x => .ret (x, H)) K
def updK (P : Program) (t : TypeId) (K : AV → M) : M := fun H => bd (ofO x fun x => ofO y fun k => ofO z fun w => ofO (mapUpdateA P t x k w H) fun H' => .ret (undefA, H')) K
def rngK (P : Program) (t : TypeId) (K : AV → M) : M := fun H => bd (ofO x fun x => ofO (rangeA P t x H) .ret) K
def nxtK (s : Bool) (K : AV → M) : M := fun H => bd (ofO x fun it => nextA it s H) K
def entK (K : AV → M) : M := fun H => bd (ofO x fun it => ofO (entryA it H) fun x => .ret (x, H)) K
def exrK (i : Nat) (K : AV → M) : M := fun H => bd (ofO x fun t => ofO (extractA t i) fun x => .ret (x, H)) K
def capK (P : Program) (t : TypeId) (K : AV → M) : M := fun H => bd (ofO (allO [x]) fun args => match args with
    | [x] => capA P t x H
    | _ => .fail) K
def bltK (P : Program) (b : Builtin) (tys : Array TypeId) (t : TypeId) (args : List (Option AV)) (K : AV → M) : M := fun H => bd (ofO (allO args) fun args => ofO (builtinA P b tys t args H) .ret) K
def calK (call : FuncId → List AV → M) (args : List (Option AV)) (K : AV → M) : M := fun H => ofO x fun f => match f with
      | .fn g first caps => ofO (allO args) fun as => (call g (first ++ as ++ caps) H).bind fun r => K r.1 r.2
      | _ => .fail
def wantV (v : AV) (want : Bool) : Option Bool :=
  match (some v : Option AV) with
      | some (.bool b) => some (b == want)
      | some (.tup []) => some false
      | _ => none
def grdK (w : Option Bool) (f : (AV → M) → M) (K : AV → M) : M := fun H => match w with
  | some true => f K H
  | some false => K undefA H
  | none => .fail
def cndK (a b : M) : M := fun H => ofO x fun v => match v with
    | .bool true => a H
    | .bool false => b H
    | _ => .fail
/-- What has been read ahead still stands there. -/
def ndlK (P : Program) (w : Option Bool) (t : TypeId) (v : AV) (K : M) : M := fun H => match w, x with
  | some true, some a => .need (loadA P t a H) (some v) (K H)
  | _, _ => K H
def ndmK (P : Program) (w : Option Bool) (t : TypeId) (ok : Bool) (v : AV) (K : M) : M := fun H => match w, x, y with
  | some true, some a, some k => .need (lookupA P t a k ok H) (some v) (K H)
  | _, _, _ => K H
end

def lateBox (t : TypeId) (x : Option AV) : Option (AObj × (Nat → AV)) := match x with
    | some v => if v.cells.all AV.cell then some (.row v.cells .new t, fun n => .ptr n 0) else none
    | none => none
def lateBsl (P : Program) (t : TypeId) (len : Nat) (ps : List (Nat × Option AV)) : Option (AObj × (Nat → AV)) := match prtO ps, elemA P t with
    | some parts, some e => match zcellsA P e with
      | some z =>
        if len * z.length ≤ 16777216 then
          match fillA (fun i => some (i * z.length, z.length)) (repeatL z len) parts with
          | some cs => if cs.all AV.cell then some (.row cs .new e, fun n => .sl n 0 len (.exact len)) else none
          | none => none
        else none
      | none => none
    | _, _ => none
def lateMsl (P : Program) (t : TypeId) (x y : Option AV) : Option (AObj × (Nat → AV)) := match x, y, elemA P t with
    | some (.int _ l), some (.int _ c), some e => match zcellsA P e, bytA P e with
      | some z, some b =>
        if 0 ≤ l ∧ l ≤ c ∧ (b : Int) * c ≤ 281474976710656 ∧ c ≤ 9223372036854775807 then some (.row (repeatL z c.toNat) .new e, fun n => .sl n 0 l.toNat (.exact c.toNat)) else none
      | _, _ => none
    | _, _, _ => none
def latK (b : Bool) (K : M) : M := match b with
  | true => K
  | false => fun _ => .fail

/-! ### A region in its plan's order, what has been read ahead told register by register -/
inductive SHold where
  | load (i : Nat) (w : Option Bool) (t : TypeId) (a : Option AV) (v : AV)
  | look (i : Nat) (w : Option Bool) (t : TypeId) (x k : Option AV) (ok : Bool) (v : AV)
def SHold.num : SHold → Nat
  | .load i .. => i
  | .look i .. => i
def SHold.hold : SHold → Option Hold
  | .load i (some true) t (some a) v => some (.load i t a v)
  | .look i (some true) t (some x) (some k) ok v => some (.look i t x k ok v)
  | _ => none
def sholdOf (ops : Array Oper) (i : Nat) (o : Oper) (regs : List AV) (v : AV) (hs : List SHold) : List SHold :=
  match o.op with
  | .load t a => .load i (wantedA ops o regs) t (evA regs a) v :: hs
  | .lookup t x k ok => .look i (wantedA ops o regs) t (evA regs x) (evA regs k) ok v :: hs
  | _ => hs
def needS (P : Program) (hs : List SHold) (r : M) : M :=
  match hs with
  | [] => r
  | .load i w t a v :: hs => ndlK a P w t v (needS P hs r)
  | .look i w t x k ok v :: hs => ndmK x k P w t ok v (needS P hs r)
def opS (P : Program) (call : FuncId → List AV → M) (o : Oper) (regs : List AV) (K : AV → M) : M := fun H =>
    match o.op with
    | .call { callee := .value f, args, .. } => ofO (evA regs f) fun f => match f with
      | .fn g first caps => ofO (evL regs args.toList) fun as => (call g (first ++ as ++ caps) H).bind fun r => K r.1 r.2
      | _ => .fail
    | _ => (opA P o regs H).bind fun r => K r.1 r.2
def stepS (P : Program) (call : FuncId → List AV → M) (ops : Array Oper) (o : Oper) (regs : List AV) (K : AV → M) : M :=
  match o.guard with
  | none => opS P call o regs K
  | some _ => grdK (wantedA ops o regs) (opS P call o regs) K
theorem stepS_eq (call : FuncId → List AV → M) (ops : Array Oper) (o : Oper) (regs : List AV) (K : AV → M) : stepA P call ops o regs K = stepS P call ops o regs K := by
  funext H
  obtain ⟨dst, op, ty, pos, after, guard⟩ := o
  cases guard with
  | none => rfl
  | some g =>
    show stepA P call ops _ regs K H = grdK (wantedA ops _ regs) (opS P call _ regs) K H
    unfold stepA grdK
    cases wantedA ops ⟨dst, op, ty, pos, after, some g⟩ regs with
    | none => rfl
    | some b => cases b <;> rfl
def opsS (P : Program) (call : FuncId → List AV → M) (ops : Array Oper) : List Oper → List AV → (List AV → M) → M
  | [], regs, K => K regs
  | o :: rest, regs, K => stepS P call ops o regs fun v => opsS P call ops rest (putA regs o.dst v) K
theorem opsS_eq (call : FuncId → List AV → M) (ops : Array Oper) (K : List AV → M) : ∀ (l : List Oper) (regs : List AV), opsA P call ops l regs K = opsS P call ops l regs K
  | [], regs => rfl
  | o :: rest, regs => by
    unfold opsA opsS
    rw [stepS_eq]
    congr 1
    funext v
    exact opsS_eq call ops K rest _
def planS (P : Program) (call : FuncId → List AV → M) (ops : Array Oper) : List PStep → List SHold → List AV → (List AV → M) → M
  | [], _, regs, K => K regs
  | s :: rest, hs, regs, K =>
    match s.kind with
    | .inert => stepS P call ops s.op regs fun v => planS P call ops rest (sholdOf ops s.num s.op regs v hs) (putA regs s.op.dst v) K
    | .late => match s.lates.all fun o => (lateA P o regs).isSome with
      | true => stepS P call ops s.op regs fun v => planS P call ops rest hs (putA regs s.op.dst v) K
      | false => fun _ => .fail
    | .hard => match s.lates.all fun o => (lateA P o regs).isSome with
      | true => stepS P call ops s.op regs fun v =>
        needS P (hs.filter fun h => !hasM s.pre h.num) (planS P call ops rest (hs.filter fun h => !hasM s.pre h.num) (putA regs s.op.dst v) K)
      | false => fun _ => .fail

theorem needS_eq (H : Heap) (r : M) : ∀ hs : List SHold, needS P hs r H = needAll P H (hs.filterMap SHold.hold) (r H)
  | [] => rfl
  | .load i w t a v :: hs => by
    have ih := needS_eq H r hs
    cases w with
    | none => exact ih
    | some b => cases b <;> cases a <;> first | exact ih | (show Res.need _ _ _ = Res.need _ _ _; rw [ih]; rfl)
  | .look i w t x k ok v :: hs => by
    have ih := needS_eq H r hs
    cases w with
    | none => exact ih
    | some b => cases b <;> cases x <;> cases k <;> first | exact ih | (show Res.need _ _ _ = Res.need _ _ _; rw [ih]; rfl)
theorem filter_hold (p : Nat → Bool) : ∀ hs : List SHold, (hs.filterMap SHold.hold).filter (fun h => p h.num) = (hs.filter fun h => p h.num).filterMap SHold.hold
  | [] => rfl
  | h :: hs => by
    have ih := filter_hold p hs
    have hn : ∀ h', h.hold = some h' → h'.num = h.num := by
      intro h' e
      unfold SHold.hold at e
      split at e
      · injection e with e; subst e; rfl
      · injection e with e; subst e; rfl
      · cases e
    cases e : h.hold with
    | none => cases hp : p h.num <;> simp [List.filterMap_cons, List.filter_cons, e, ih, hp]
    | some h' => cases hp : p h.num <;> simp [List.filterMap_cons, List.filter_cons, e, ih, hp, hn h' e]
theorem hold_step (ops : Array Oper) (i : Nat) (o : Oper) (regs : List AV) (v : AV) (hs : List SHold) : (match wantedA ops o regs, holdOf i o regs v with
      | some true, some h => h :: hs.filterMap SHold.hold
      | _, _ => hs.filterMap SHold.hold) = (sholdOf ops i o regs v hs).filterMap SHold.hold := by
  obtain ⟨dst, op, ty, pos, after, guard⟩ := o
  cases op with
  | load t a =>
    simp only [holdOf, sholdOf]
    cases wantedA ops ⟨dst, .load t a, ty, pos, after, guard⟩ regs with
    | none => rfl
    | some b => cases b <;> cases evA regs a <;> rfl
  | lookup t x k ok =>
    simp only [holdOf, sholdOf]
    cases wantedA ops ⟨dst, .lookup t x k ok, ty, pos, after, guard⟩ regs with
    | none => rfl
    | some b => cases b <;> cases evA regs x <;> cases evA regs k <;> rfl
  | _ =>
    simp only [holdOf, sholdOf]
    split
    · rename_i e
      cases e
    · rfl
theorem planS_eq (call : FuncId → List AV → M) (ops : Array Oper) (K : List AV → M) : ∀ (l : List PStep) (hs : List SHold) (regs : List AV), planK P call ops l (hs.filterMap SHold.hold) regs K = planS P call ops l hs regs K
  | [], hs, regs => rfl
  | s :: rest, hs, regs => by
    unfold planK planS
    simp only [stepS_eq]
    cases s.kind with
    | inert =>
      simp only
      congr 1
      funext v
      rw [← planS_eq call ops K rest, ← hold_step]
      rfl
    | late =>
      simp only
      cases s.lates.all fun o => (lateA P o regs).isSome with
      | true =>
        simp only
        congr 1
        funext v
        exact planS_eq call ops K rest hs _
      | false => rfl
    | hard =>
      simp only
      cases s.lates.all fun o => (lateA P o regs).isSome with
      | true =>
        simp only
        congr 1
        funext v H
        rw [needS_eq, filter_hold (fun n => !hasM s.pre n), planS_eq call ops K rest]
      | false => rfl
def regS (P : Program) (call : FuncId → List AV → M) (ops : Array Oper) (draw : Bool) (regs : List AV) (K : List AV → M) : M :=
  match draw with
  | false => opsS P call ops ops.toList regs K
  | true => match planA P ops (numbered 0 ops.toList) ops.size 0 with
    | some pl => match P.follows .mixedOrders && Region.noSelect ops && uniqDst P (numbered 0 ops.toList) with
      | true => planS P call ops pl [] (forget P regs (numbered 0 ops.toList)) K
      | false => fun _ => .fail
    | none => fun _ => .fail
theorem regS_eq (call : FuncId → List AV → M) (ops : Array Oper) (draw : Bool) (regs : List AV) (K : List AV → M) : regA P call ops draw regs K = regS P call ops draw regs K := by
  cases draw with
  | false => exact opsS_eq call ops K _ _
  | true =>
    unfold regA regS
    simp only
    cases planA P ops (numbered 0 ops.toList) ops.size 0 with
    | none => rfl
    | some pl =>
      simp only
      cases P.follows .mixedOrders && Region.noSelect ops && uniqDst P (numbered 0 ops.toList) with
      | true => exact planS_eq call ops K _ [] _
      | false => rfl
def isReg : Code → Bool
  | .region _ _ _ => true
  | _ => false
def pieceS (P : Program) (call : FuncId → List AV → M) : Code → List AV → (List AV → M) → M
  | .region _ ops draw, regs, K => regS P call ops draw regs K
  | _, _, _ => fun _ => .fail
/-- A region. -/
theorem reg_eq {call : FuncId → List AV → M} {n : Nat} {c : Code} {t : Ann} {regs : List AV} {K : AExit → List AV → M} (h : isReg c = true) : codeA P call n c t regs K = pieceS P call c regs (K .norm) := by
  cases c <;> first | (cases h; done) | skip
  exact regS_eq _ _ _ _ _
/-- A region, and what comes behind it. -/
theorem seq_eq {call : FuncId → List AV → M} {n : Nat} {c d e : Code} {t : Ann} {regs : List AV} {K : AExit → List AV → M} (hc : c = .seq d e) (h : isReg d = true) : codeA P call n c t regs K = pieceS P call d regs fun r => codeA P call n e t.r (keepA t.k r) K := by
  subst hc
  show codeA P call n d t.l regs _ = _
  rw [reg_eq h]
theorem seqP {call : FuncId → List AV → M} {n : Nat} {c : Code} (d e : Code) {t : Ann} {regs : List AV} {K : AExit → List AV → M} {H : Heap} {R : Res (AV × Heap)} (hc : (c, isReg d) = (.seq d e, true)) (hr : (pieceS P call d regs fun r => codeA P call n e t.r (keepA t.k r) K) H = R) : codeA P call n c t regs K H = R := by
  rw [seq_eq (congrArg Prod.fst hc) (congrArg Prod.snd hc)]
  exact hr
theorem regP {call : FuncId → List AV → M} {n : Nat} {c : Code} {t : Ann} {regs : List AV} {K : AExit → List AV → M} {H : Heap} {R : Res (AV × Heap)} (hc : isReg c = true) (hr : pieceS P call c regs (K .norm) H = R) : codeA P call n c t regs K H = R := by
  rw [reg_eq hc]
  exact hr
theorem app_eq {P : Program} {t u ty e s b : Nat} {z : List AV} {x y : AV} {K : AV → M} {H : Heap} (h : (elemA P t, isIntT P u, sizA P e, isSeqT P u, zcellsA P e, bytA P e) = (some e, false, some s, true, some z, some b)) :
    bltK P .append #[t, u] ty [some x, some y] K H = appC e s z b x y K H := by
  simp only [Prod.mk.injEq] at h
  obtain ⟨h1, h2, h3, h4, h5, h6⟩ := h
  unfold bltK appC bd
  simp only [allO, ofO, builtinA, h1, h2, h3, h4, Bool.false_eq_true, if_false]
  cases lenA y with
  | none => rfl
  | some k =>
    simp only
    cases firstA s k y H with
    | none => rfl
    | some new =>
      simp only
      have : appendA P e x k new H = appA e z b x k new H := by
        unfold appendA
        simp only [h5, h6]
        rfl
      rw [this]
      cases appA e z b x k new H <;> rfl
theorem cpy_eq {P : Program} {t u ty e s : Nat} {x y : AV} {K : AV → M} {H : Heap} (h : (elemA P t, sizA P e) = (some e, some s)) :
    bltK P .copy #[t, u] ty [some x, some y] K H = cpyC s x y K H := by
  simp only [Prod.mk.injEq] at h
  obtain ⟨h1, h2⟩ := h
  unfold bltK cpyC bd
  simp only [allO, ofO, builtinA, h1, h2]
  cases lenA x with
  | none => rfl
  | some m =>
    simp only
    cases lenA y with
    | none => rfl
    | some k =>
      simp only
      cases firstA s (min k m) y H with
      | none => rfl
      | some new =>
        cases x <;> first | rfl | skip
        rename_i id off len cap
        by_cases h0 : min k m = 0
        · simp only [if_pos h0]; rfl
        · simp only [if_neg h0]
          cases H.put id off new <;> rfl
def mapT (P : Program) (t : TypeId) : Option (PK × AV) := match P.underlying t with
  | some (.map kt et) => match keyA P kt, zeroA P et with
    | some kd, some z => some (kd, z)
    | _, _ => none
  | _ => none
theorem lok_eq {P : Program} {t : TypeId} {kd : PK} {z : AV} (h : mapT P t = some (kd, z)) {x k : AV} {ok : Bool} {H : Heap} : lookupA P t x k ok H = lokA kd z x k ok H := by
  unfold mapT at h
  unfold lookupA lokA
  split at h
  · rename_i kt et hu
    simp only [hu]
    cases hk : keyA P kt with
    | none => rw [hk] at h; cases h
    | some kd' =>
      cases hz : zeroA P et with
      | none => rw [hk, hz] at h; cases h
      | some z' =>
        rw [hk, hz] at h
        simp only [Option.some.injEq, Prod.mk.injEq] at h
        obtain ⟨rfl, rfl⟩ := h
        cases entriesA x H <;> rfl
  · cases h
def mapTK (P : Program) (t : TypeId) : Option PK := match P.underlying t with
  | some (.map kt et) => keyA P kt
  | _ => none
theorem upd_eq {P : Program} {t : TypeId} {kd : PK} (h : mapTK P t = some kd) {x k v : AV} {H : Heap} : mapUpdateA P t x k v H = updM kd x k v H := by
  unfold mapTK at h
  split at h
  · rename_i kt et hu
    cases x with
    | mp r =>
      cases r with
      | none => simp [mapUpdateA, updM, hu]
      | some id =>
        simp only [mapUpdateA, updM, hu, h]
        cases H.get id with
        | none => rfl
        | some o => cases o <;> rfl
    | _ => simp [mapUpdateA, updM, hu]
  · cases h

/-! ### A call's beginning and end -/
def resO (l : List (Option AV)) : Option AV := match allO l with
  | some [v] => some v
  | some vs => some (.tup vs)
  | none => none
def retK (P : Program) (fn : Func) : AExit → List AV → M := fun x regs H => match x with
  | .exit _ => .fail
  | _ => ofO (resA P fn regs H) fun v => .ret (v, H)
theorem enter {L : Lib} {f : FuncId} {fn : Func} {c : Code} {n : Nat} {args : List AV} {H : Heap} (hs : L.sum f = none) (hf : P.funcs[f]? = some fn) (hb : fn.body = some c) :
    callA P L (n + 1) f args H = codeA P (callA P L n) n c (L.ann f) (args ++ junks (fn.ntmps - args.length)) (retK P fn) H := by
  simp only [callA, hs, hf, hb]
  rfl
theorem entP {L : Lib} {f : FuncId} {fn : Func} {n : Nat} {args : List AV} {a : Ann} {H : Heap} {R : Res (AV × Heap)} (hs : L.sum f = none) (hf : P.funcs[f]? = some fn) (ha : L.ann f = a)
    (hr : (match fn.body with
      | some c => codeA P (callA P L n) n c a (args ++ junks (fn.ntmps - args.length)) (retK P fn) H
      | none => L.ext fn args H) = R) : callA P L (n + 1) f args H = R := by
  rw [← hr, ← ha]
  simp only [callA, hs, hf]
  cases fn.body <;> rfl

/-! ### Loops -/
theorem loop_ind {S : Type} {body : List AV → (AExit → List AV → M) → M} {k : Option Nat} {K : AExit → List AV → M} {Q : AV × Heap → Prop} (emb : S → List AV) (I : S → Heap → Prop) (μ : S → Nat)
    (hstep : ∀ m s H, I s H → μ s ≤ m → (∀ r s' H', keepA k r = emb s' → I s' H' → μ s' < μ s → (loopA body k m r K H').all Q) → (body (emb s) (lopK body k m K) H).all Q) :
    ∀ n r s H, keepA k r = emb s → I s H → μ s < n → (loopA body k n r K H).all Q
  | 0, r, s, H, hr, hi, hm => by omega
  | n + 1, r, s, H, hr, hi, hm => by
    show (body (keepA k r) (lopK body k n K) H).all Q
    rw [hr]
    exact hstep n s H hi (by omega) fun r' s' H' h1 h2 h3 => loop_ind emb I μ hstep n r' s' H' h1 h2 (by omega)
end Go.Proofs.YtlcfkeigipkhlaaGreatDoorAbs
