/- How the words of the printed code are walked: what each comes to at values whose form is known. -/
import Derived.Test.YtlcfkeigipkhlaaGreatDoorW0
import Derived.IntWalk
set_option linter.unusedVariables false
set_option linter.unusedSimpArgs false
set_option linter.defProp false
namespace Go.Proofs.YtlcfkeigipkhlaaGreatDoorAbs
variable {P : Program}

/-! ### What a whole number of so many bits is -/
theorem wr_u8 (n : Int) : IntKind.u8.wrap n = n % 256 := by simp [IntKind.wrap, IntKind.bits, IntKind.signed]
theorem wr_u16 (n : Int) : IntKind.u16.wrap n = n % 65536 := by simp [IntKind.wrap, IntKind.bits, IntKind.signed]
theorem wr_u32 (n : Int) : IntKind.u32.wrap n = n % 4294967296 := by simp [IntKind.wrap, IntKind.bits, IntKind.signed]
theorem wr_u64 (n : Int) : IntKind.u64.wrap n = n % 18446744073709551616 := by simp [IntKind.wrap, IntKind.bits, IntKind.signed]
theorem wr_i32 (n : Int) : IntKind.i32.wrap n = (n + 2147483648) % 4294967296 - 2147483648 := IntKind.wrap_i32 n
theorem wr_i64 (n : Int) : IntKind.i64.wrap n = (n + 9223372036854775808) % 18446744073709551616 - 9223372036854775808 := IntKind.wrap_i64 n
def wwr := And.intro @wr_u8 <| And.intro @wr_u16 <| And.intro @wr_u32 <| And.intro @wr_u64 <| And.intro @wr_i32 @wr_i64

/-! ### A choice -/
/-- Neither way is walked before the choice is known. -/
def brK (b : Bool) (A B : M) : M := fun H => match b with
  | true => A H
  | false => B H
section
variable {A B : M} {H : Heap} {Q : AV × Heap → Prop} {K : AV → M}
theorem br_true : brK true A B H = A H := rfl
theorem br_false : brK false A B H = B H := rfl
theorem br_not {b : Bool} : brK (!b) A B H = brK b B A H := by cases b <;> rfl
theorem br_all {b : Bool} (h1 : b = true → (A H).all Q) (h2 : b = false → (B H).all Q) : (brK b A B H).all Q := by
  cases b
  · exact h2 rfl
  · exact h1 rfl
theorem br_dec {p : Prop} [Decidable p] (h1 : p → (A H).all Q) (h2 : ¬p → (B H).all Q) : (brK (decide p) A B H).all Q :=
  br_all (fun h => h1 (of_decide_eq_true h)) (fun h => h2 (of_decide_eq_false h))
end

/-! ### Registers -/
section
variable {k n : Nat} {b : Bool} {v : AV} {i o : Nat} {l : List AV} {c : ACap} {s : ByteArray} {t : Nat} {r : Option Nat} {a d : List AV} {z : Int} {kd : IntKind}
theorem nj_bool : nj (.bool b) = some (.bool b) := rfl
theorem nj_int : nj (.int kd z) = some (.int kd z) := rfl
theorem nj_str : nj (.str s) = some (.str s) := rfl
theorem nj_nilp : nj .nilp = some .nilp := rfl
theorem nj_ptr : nj (.ptr i o) = some (.ptr i o) := rfl
theorem nj_gptr : nj (.gptr i o) = some (.gptr i o) := rfl
theorem nj_nils : nj .nils = some .nils := rfl
theorem nj_sl : nj (.sl i o n c) = some (.sl i o n c) := rfl
theorem nj_emp : nj (.emp i) = some (.emp i) := rfl
theorem nj_mp : nj (.mp r) = some (.mp r) := rfl
theorem nj_fn : nj (.fn t a d) = some (.fn t a d) := rfl
theorem nj_nilf : nj .nilf = some .nilf := rfl
theorem nj_iface : nj (.iface t v) = some (.iface t v) := rfl
theorem nj_nili : nj .nili = some .nili := rfl
theorem nj_agg : nj (.agg l) = some (.agg l) := rfl
theorem nj_tup : nj (.tup l) = some (.tup l) := rfl
theorem nj_cell (h : v.cell = true) : nj v = some v := by cases v <;> first | rfl | cases h
theorem cells_cell (h : v.cell = true) : v.cells = [v] := by cases v <;> first | rfl | cases h
theorem cells_agg : (AV.agg l).cells = l := rfl
theorem cells_int : (AV.int kd z).cells = [.int kd z] := rfl
theorem cells_bool : (AV.bool b).cells = [.bool b] := rfl
theorem cells_str : (AV.str s).cells = [.str s] := rfl
theorem cells_nils : (AV.nils).cells = [.nils] := rfl
theorem cells_nilp : (AV.nilp).cells = [.nilp] := rfl
theorem cells_ptr : (AV.ptr i o).cells = [.ptr i o] := rfl
theorem cells_sl : (AV.sl i o n c).cells = [.sl i o n c] := rfl
theorem cells_emp : (AV.emp i).cells = [.emp i] := rfl
theorem cells_mp : (AV.mp r).cells = [.mp r] := rfl
theorem cells_fn : (AV.fn t a d).cells = [.fn t a d] := rfl
theorem cell_int : (AV.int kd z).cell = true := rfl
theorem cell_bool : (AV.bool b).cell = true := rfl
theorem cell_str : (AV.str s).cell = true := rfl
theorem cell_nils : AV.nils.cell = true := rfl
theorem cell_nilp : AV.nilp.cell = true := rfl
theorem cell_ptr : (AV.ptr i o).cell = true := rfl
theorem cell_sl : (AV.sl i o n c).cell = true := rfl
theorem cell_emp : (AV.emp i).cell = true := rfl
theorem cell_mp : (AV.mp r).cell = true := rfl
theorem cell_fn : (AV.fn t a d).cell = true := rfl
end
def wnj := And.intro @nj_bool <| And.intro @nj_int <| And.intro @nj_str <| And.intro @nj_nilp <| And.intro @nj_ptr <| And.intro @nj_gptr <| And.intro @nj_nils <| And.intro @nj_sl <| And.intro @nj_emp <| And.intro @nj_mp <| And.intro @nj_fn <| And.intro @nj_nilf <| And.intro @nj_iface <| And.intro @nj_nili <| And.intro @nj_agg @nj_tup
def wcells := And.intro @cells_agg <| And.intro @cells_int <| And.intro @cells_bool <| And.intro @cells_str <| And.intro @cells_nils <| And.intro @cells_nilp <| And.intro @cells_ptr <| And.intro @cells_sl <| And.intro @cells_emp <| And.intro @cells_mp <| And.intro @cells_fn <| And.intro @cell_int <| And.intro @cell_bool <| And.intro @cell_str <| And.intro @cell_nils <| And.intro @cell_nilp <| And.intro @cell_ptr <| And.intro @cell_sl <| And.intro @cell_emp <| And.intro @cell_mp @cell_fn

/-- What is kept of registers. -/
def keepL (m : Nat) : List (Nat × AV) → List (Nat × AV)
  | [] => []
  | (i, v) :: l => match m.testBit i with
    | true => (i, v) :: keepL m l
    | false => keepL m l
theorem getL_keepL (m : Nat) : ∀ (l : List (Nat × AV)) (k : Nat), getL (keepL m l) k = (match m.testBit k with | true => getL l k | false => .junk)
  | [], k => by cases h : m.testBit k <;> rfl
  | (i, v) :: l, k => by
    have ih := getL_keepL m l k
    unfold keepL
    cases hi : m.testBit i with
    | true =>
      simp only [getL]
      cases hik : Nat.beq i k with
      | true =>
        obtain rfl := Nat.eq_of_beq_eq_true hik
        simp only [hi]
      | false => exact ih
    | false =>
      simp only [getL]
      cases hik : Nat.beq i k with
      | true =>
        obtain rfl := Nat.eq_of_beq_eq_true hik
        rw [ih]
        simp only [hi]
      | false => exact ih
theorem keepFrom_rg (m : Nat) (l : List (Nat × AV)) : ∀ n i, keepFrom m i (rgFrom l i n) = rgFrom (keepL m l) i n
  | 0, i => rfl
  | n + 1, i => by
    simp only [rgFrom, keepFrom, keepFrom_rg m l n, getL_keepL]
    cases m.testBit i <;> rfl
theorem keep_rg {m n : Nat} {l : List (Nat × AV)} : keepA (some m) (rg n l) = rg n (keepL m l) := keepFrom_rg m l n 0
theorem keepL_nil {m : Nat} : keepL m [] = [] := rfl
theorem keepL_yes {m i : Nat} {v : AV} {l : List (Nat × AV)} (h : m.testBit i = true) : keepL m ((i, v) :: l) = (i, v) :: keepL m l := by simp only [keepL, h]
theorem keepL_no {m i : Nat} {v : AV} {l : List (Nat × AV)} (h : m.testBit i = false) : keepL m ((i, v) :: l) = keepL m l := by simp only [keepL, h]
theorem getL_same {i : Nat} {v : AV} {l : List (Nat × AV)} : getL ((i, v) :: l) i = v := by simp [getL]
theorem getL_ne {i k : Nat} {v : AV} {l : List (Nat × AV)} (h : Nat.beq i k = false) : getL ((i, v) :: l) k = getL l k := by simp only [getL, h]

/-! ### Words -/
section
variable {f : AV → M} {H : Heap} {v x y : AV} {xo yo : Operand} {t : TypeId} {kd : IntKind} {a b : Int}
theorem bd_ret {H' : Heap} : bd (.ret (v, H')) f = f v H' := rfl
theorem bd_fail : bd .fail f = .fail := rfl
theorem ofO_some {α : Type} {a : α} {g : α → Res (AV × Heap)} : ofO (some a) g = g a := rfl
theorem mv_s : mvK (some v) f H = f v H := rfl
theorem pick_t {z : Option AV} : pickK (some (.bool true)) (some x) z f H = f x H := rfl
theorem pick_f {z : Option AV} : pickK (some (.bool false)) z (some x) f H = f x H := rfl
theorem box_s (h : v.cells.all AV.cell = true) : boxK (some v) t f H = f (.ptr H.next 0) (H.alloc (.row v.cells .new t)) := by
  simp only [boxK, bd, newA, ofO, h, if_true, Res.bind]
theorem alc_s {cs : List AV} (h : cs.all AV.cell = true) : alcK t cs f H = f (.ptr H.next 0) (H.alloc (.row cs .new t)) := by
  simp only [alcK, bd, newA, ofO, h, if_true, Res.bind]
theorem map_s : mapK f H = f (.mp (some H.next)) (H.alloc (.map [])) := rfl
theorem unk_not {c : Bool} : unK (some (.bool c)) .not f H = f (.bool !c) H := rfl
theorem unk_neg : unK (some (.int kd a)) .neg f H = f (.int kd (kd.wrap (-a))) H := by
  show f (.int kd (kd.wrap (0 - a))) H = _
  rw [Int.zero_sub]
theorem cnv_s {k' : IntKind} : cnvZ (some (.int k' a)) kd f H = f (.int kd (kd.wrap a)) H := rfl
theorem cnd_s {c : Bool} {A B : M} : cndK (some (.bool c)) A B H = brK c A B H := by cases c <;> rfl
theorem grd_t {c : Bool} {g : (AV → M) → M} : grdK (wantV (.bool c) true) g f H = brK c (g f) (f undefA) H := by cases c <;> rfl
theorem grd_f {c : Bool} {g : (AV → M) → M} : grdK (wantV (.bool c) false) g f H = brK c (f undefA) (g f) H := by cases c <;> rfl
theorem grd_ut {g : (AV → M) → M} {w : Bool} : grdK (wantV undefA w) g f H = f undefA H := rfl
theorem grd_u {g : (AV → M) → M} {w : Bool} : grdK (wantV (.tup []) w) g f H = f undefA H := rfl
theorem ndl_t {o : Option AV} {K : M} (h : loadA P t x H = some v) {Q : AV × Heap → Prop} (hk : (K H).all Q) : (ndlK (some x) P (some true) t v K H).all Q := ⟨h, hk⟩
theorem want_b {c w : Bool} : wantV (.bool c) w = some (c == w) := rfl
/-! whole numbers -/
theorem bin_vs {op : BinOp} (hx : nonNil P t H x y = false ∧ bothNil P t x y = false) : binK (some x) (some y) P op t xo yo f H = bd (ofO (binA P op t xo yo x y) fun x => .ret (x, H)) f := by
  unfold binK
  have : vsNilA P op t H x y = none := by
    obtain ⟨h1, h2⟩ := hx
    unfold vsNilA
    cases op <;> simp [h1, h2]
  simp only [ofO, this]
theorem nonNil_int : nonNil P t H (.int kd a) y = false := by
  unfold nonNil
  split <;> first | rfl | (rename_i h; cases h)
theorem bothNil_int : bothNil P t (.int kd a) y = false := by
  unfold bothNil
  split <;> first | rfl | (rename_i h; cases h)
theorem bin_int {op : BinOp} {k' : IntKind} : binK (some (.int kd a)) (some (.int k' b)) P op t xo yo f H = bd (ofO (binA P op t xo yo (.int kd a) (.int k' b)) fun x => .ret (x, H)) f :=
  bin_vs ⟨nonNil_int, bothNil_int⟩
theorem bin_add : binK (some (.int kd a)) (some (.int kd b)) P .add t xo yo f H = f (.int kd (kd.wrap (a + b))) H := by rw [bin_int]; simp [binA, intA, ofO, bd, Res.bind]
theorem bin_sub : binK (some (.int kd a)) (some (.int kd b)) P .sub t xo yo f H = f (.int kd (kd.wrap (a - b))) H := by rw [bin_int]; simp [binA, intA, ofO, bd, Res.bind]
theorem bin_mul : binK (some (.int kd a)) (some (.int kd b)) P .mul t xo yo f H = f (.int kd (kd.wrap (a * b))) H := by rw [bin_int]; simp [binA, intA, ofO, bd, Res.bind]
theorem bin_eql : binK (some (.int kd a)) (some (.int kd b)) P .eql t xo yo f H = f (.bool (decide (a = b))) H := by
  rw [bin_int]; simp only [binA, intA, if_true, ofO, bd, Res.bind]; rfl
theorem bin_neq : binK (some (.int kd a)) (some (.int kd b)) P .neq t xo yo f H = f (.bool (!decide (a = b))) H := by
  rw [bin_int]; simp only [binA, intA, if_true, ofO, bd, Res.bind]; rfl
theorem bin_lss : binK (some (.int kd a)) (some (.int kd b)) P .lss t xo yo f H = f (.bool (decide (a < b))) H := by rw [bin_int]; simp [binA, intA, ofO, bd, Res.bind]
theorem bin_leq : binK (some (.int kd a)) (some (.int kd b)) P .leq t xo yo f H = f (.bool (decide (a ≤ b))) H := by rw [bin_int]; simp [binA, intA, ofO, bd, Res.bind]
theorem bin_gtr : binK (some (.int kd a)) (some (.int kd b)) P .gtr t xo yo f H = f (.bool (decide (b < a))) H := by rw [bin_int]; simp [binA, intA, ofO, bd, Res.bind]
theorem bin_geq : binK (some (.int kd a)) (some (.int kd b)) P .geq t xo yo f H = f (.bool (decide (b ≤ a))) H := by rw [bin_int]; simp [binA, intA, ofO, bd, Res.bind]
theorem bin_quo (h : b ≠ 0) : binK (some (.int kd a)) (some (.int kd b)) P .quo t xo yo f H = f (.int kd (kd.wrap (a.tdiv b))) H := by rw [bin_int]; simp [binA, intA, ofO, bd, Res.bind, h]
theorem bin_rem (h : b ≠ 0) : binK (some (.int kd a)) (some (.int kd b)) P .rem t xo yo f H = f (.int kd (a.tmod b)) H := by rw [bin_int]; simp [binA, intA, ofO, bd, Res.bind, h]
theorem bin_and : binK (some (.int kd a)) (some (.int kd b)) P .and t xo yo f H = f (.int kd (kd.wrap (BitVec.ofInt kd.bits a &&& BitVec.ofInt kd.bits b).toNat)) H := by rw [bin_int]; simp [binA, intA, intBitsA, ofO, bd, Res.bind]
theorem bin_or : binK (some (.int kd a)) (some (.int kd b)) P .or t xo yo f H = f (.int kd (kd.wrap (BitVec.ofInt kd.bits a ||| BitVec.ofInt kd.bits b).toNat)) H := by rw [bin_int]; simp [binA, intA, intBitsA, ofO, bd, Res.bind]
theorem bin_xor : binK (some (.int kd a)) (some (.int kd b)) P .xor t xo yo f H = f (.int kd (kd.wrap (BitVec.ofInt kd.bits a ^^^ BitVec.ofInt kd.bits b).toNat)) H := by rw [bin_int]; simp [binA, intA, intBitsA, ofO, bd, Res.bind]
theorem bin_shl {k' : IntKind} (h : 0 ≤ b) : binK (some (.int kd a)) (some (.int k' b)) P .shl t xo yo f H = f (.int kd (kd.wrap (a * 2 ^ (min b.toNat kd.bits)))) H := by
  rw [bin_int]; simp [binA, shiftA, ofO, bd, Res.bind, Int.not_lt.2 h]
theorem bin_shr {k' : IntKind} (h : 0 ≤ b) : binK (some (.int kd a)) (some (.int k' b)) P .shr t xo yo f H = f (.int kd (a.fdiv (2 ^ (min b.toNat kd.bits)))) H := by
  rw [bin_int]; simp [binA, shiftA, ofO, bd, Res.bind, Int.not_lt.2 h]
/-! truth values, texts -/
theorem nonNil_bool {c : Bool} : nonNil P t H (.bool c) y = false := by
  unfold nonNil
  split <;> first | rfl | (rename_i h; cases h)
theorem bothNil_bool {c : Bool} : bothNil P t (.bool c) y = false := by
  unfold bothNil
  split <;> first | rfl | (rename_i h; cases h)
theorem nilA_bool {c : Bool} : nilA P t (.bool c) y = none := by
  unfold nilA
  split <;> first | rfl | (rename_i h; cases h)
theorem bin_beq {c d : Bool} (h : P.underlying t = some .bool) : binK (some (.bool c)) (some (.bool d)) P .eql t xo yo f H = f (.bool (c == d)) H := by
  rw [bin_vs ⟨nonNil_bool, bothNil_bool⟩]
  simp only [binA, eqA, nilA_bool, h]
  cases isConstO xo || isConstO yo <;> rfl
theorem bin_bne {c d : Bool} (h : P.underlying t = some .bool) : binK (some (.bool c)) (some (.bool d)) P .neq t xo yo f H = f (.bool (!(c == d))) H := by
  rw [bin_vs ⟨nonNil_bool, bothNil_bool⟩]
  simp only [binA, eqA, nilA_bool, h]
  cases isConstO xo || isConstO yo <;> rfl
theorem nonNil_str {s : ByteArray} : nonNil P t H (.str s) y = false := by
  unfold nonNil
  split <;> first | rfl | (rename_i h; cases h)
theorem bothNil_str {s : ByteArray} : bothNil P t (.str s) y = false := by
  unfold bothNil
  split <;> first | rfl | (rename_i h; cases h)
theorem bin_str {op : BinOp} {s u : ByteArray} : binK (some (.str s)) (some (.str u)) P op t xo yo f H = bd (ofO (strA op s u) fun x => .ret (x, H)) f := by
  rw [bin_vs ⟨nonNil_str, bothNil_str⟩]
  rfl
theorem bin_seq {s u : ByteArray} : binK (some (.str s)) (some (.str u)) P .eql t xo yo f H = f (.bool (decide (s.data.toList = u.data.toList))) H := by
  rw [bin_str]; simp only [strA, ofO, bd, Res.bind]; congr 2; rw [Bool.eq_iff_iff]; simp
theorem bin_sne {s u : ByteArray} : binK (some (.str s)) (some (.str u)) P .neq t xo yo f H = f (.bool (!decide (s.data.toList = u.data.toList))) H := by
  rw [bin_str]; simp only [strA, ofO, bd, Res.bind]; congr 3; rw [Bool.eq_iff_iff]; simp
theorem bin_cat {s u : ByteArray} (h : s.size + u.size ≤ 9223372036854775807) : binK (some (.str s)) (some (.str u)) P .add t xo yo f H = f (.str ⟨s.data ++ u.data⟩) H := by
  rw [bin_str]; simp [strA, ofO, bd, Res.bind, h]
/-! tuples -/
theorem exr_s {l : List AV} {i : Nat} : exrK (some (.tup l)) i f H = (match l[i]? with | some v => f v H | none => .fail) := by
  unfold exrK bd extractA ofO
  cases h : l[i]? <;> simp [Res.bind, h]
theorem res1 : resO [some v] = some v := rfl
theorem res0 : resO [] = some (.tup []) := rfl
theorem res2 : resO [some v, some x] = some (.tup [v, x]) := rfl
theorem res3 : resO [some v, some x, some y] = some (.tup [v, x, y]) := rfl
end

/-! ### Memory -/
section
variable {f : AV → M} {H : Heap} {v x y : AV} {id o k : Nat}
theorem nx_alloc {a : AObj} : (H.alloc a).next = H.next + 1 := by simp
theorem nx_set {a : Option AObj} {n : Nat} : (H.set n a).next = H.next := by simp
theorem get_alloc_eq {a : AObj} {m : Nat} (h : m = H.next) : (H.alloc a).get m = some a := by simp [Heap.get_alloc, h]
theorem get_alloc_ne {a : AObj} {m : Nat} (h : m ≠ H.next) : (H.alloc a).get m = H.get m := by simp [Heap.get_alloc, h]
theorem get_set_same {a : Option AObj} {n : Nat} : (H.set n a).get n = a := by simp [Heap.get_set]
theorem get_set_ne {a : Option AObj} {n m : Nat} (h : m ≠ n) : (H.set n a).get m = H.get m := by simp [Heap.get_set, h]
/-- Where an object is a row: on, with its cells. -/
def ofRow (o : Option AObj) (g : List AV → M) : M := match o with
  | some (.row cs _ _) => g cs
  | some (.ro (a :: cs)) => g (a :: cs)
  | _ => fun _ => .fail
def ofRw (o : Option AObj) (g : List AV → Fill → TypeId → M) : M := match o with
  | some (.row cs u e) => g cs u e
  | _ => fun _ => .fail
def ofMp (o : Option AObj) (g : List (AV × AV) → M) : M := match o with
  | some (.map es) => g es
  | _ => fun _ => .fail
def oneO (x : Option AV) (f : AV → M) : M := match x with
  | some v => (match v.cell with | true => f v | false => fun _ => .fail)
  | none => fun _ => .fail
def manO (x : Option (List AV)) (f : AV → M) : M := match x with
  | some l => f (.agg l)
  | none => fun _ => .fail
def okO (b : Bool) (K : M) : M := match b with
  | true => K
  | false => fun _ => .fail
theorem ofRow_row {cs : List AV} {u : Fill} {e : TypeId} {g : List AV → M} : ofRow (some (.row cs u e)) g H = g cs H := rfl
theorem ofRow_ro {a : AV} {cs : List AV} {g : List AV → M} : ofRow (some (.ro (a :: cs))) g H = g (a :: cs) H := rfl
theorem ofRw_row {cs : List AV} {u : Fill} {e : TypeId} {g : List AV → Fill → TypeId → M} : ofRw (some (.row cs u e)) g H = g cs u e H := rfl
theorem ofMp_map {es : List (AV × AV)} {g : List (AV × AV) → M} : ofMp (some (.map es)) g H = g es H := rfl
theorem oneO_s (h : v.cell = true) : oneO (some v) f H = f v H := by simp only [oneO, h]
theorem manO_s {l : List AV} : manO (some l) f H = f (.agg l) H := rfl
theorem okO_s {b : Bool} {K : M} (h : b = true) : okO b K H = K H := by rw [h]; rfl
theorem fld_s : fldK (some (.ptr id o)) k f H = ofRow (H.get id) (fun _ => f (.ptr id (o + k))) H := by
  generalize hg : H.get id = g
  cases g with
  | none => simp [fldK, bd, addA, Heap.live, ofO, Res.bind, hg, ofRow]
  | some a => cases a with
    | ro l => cases l <;> simp [fldK, bd, addA, Heap.live, ofO, Res.bind, hg, ofRow]
    | _ => simp [fldK, bd, addA, Heap.live, ofO, Res.bind, hg, ofRow]
theorem fld_g {g : Nat} : fldK (some (.gptr g o)) k f H = f (.gptr g (o + k)) H := rfl
theorem loadN_one (cs : List AV) (o : Nat) : loadN cs o 1 = (match cs[o]? with
  | some v => (match v.cell with | true => some [v] | false => none)
  | none => none) := by
  unfold loadN
  by_cases h : o < cs.length
  · have h2 : (cs.drop o).take 1 = [cs[o]] := by rw [List.drop_eq_getElem_cons h]; rfl
    rw [h2, List.getElem?_eq_getElem h]
    cases hc : cs[o].cell
    · simp [hc]
    · simp [hc]; omega
  · rw [List.getElem?_eq_none (by omega)]
    simp; omega
theorem ld1_s : ld1K (some (.ptr id o)) f H = ofRow (H.get id) (fun cs => oneO cs[o]? f) H := by
  simp only [ld1K, bd, ld1, Heap.at_, Heap.cells, ofO]
  cases H.get id with
  | none => simp [Res.bind, ofRow]
  | some a => cases a with
    | ro cs =>
      simp only [loadN_one, Nat.lt_add_one, if_true]
      cases cs with
      | nil => simp [Res.bind, ofRow]
      | cons b cs =>
        simp only [ofRow, oneO]
        cases (b :: cs)[o]? with
        | none => simp [Res.bind]
        | some v => cases hv : v.cell <;> simp [Res.bind, hv]
    | row cs _ _ =>
      simp only [loadN_one, Nat.lt_add_one, if_true, ofRow, oneO]
      cases cs[o]? with
      | none => simp [Res.bind]
      | some v => cases hv : v.cell <;> simp [Res.bind, hv]
    | _ => simp [Res.bind, ofRow]
theorem ldn_s {n : Nat} : ldK (some (.ptr id o)) (n + 1) f H = ofRow (H.get id) (fun cs => manO (loadN cs o (n + 1)) f) H := by
  simp only [ldK, bd, ldA, Heap.at_, Heap.cells, ofO]
  cases H.get id with
  | none => simp [Res.bind, ofRow]
  | some a => cases a with
    | ro cs =>
      simp only [Nat.zero_lt_succ, if_true]
      cases cs with
      | nil =>
        have : loadN [] o (n + 1) = none := by simp [loadN]
        simp [Res.bind, ofRow, this]
      | cons b cs => simp only [ofRow]; cases loadN (b :: cs) o (n + 1) <;> simp [Res.bind, manO]
    | row cs _ _ => simp only [Nat.zero_lt_succ, if_true, ofRow]; cases loadN cs o (n + 1) <;> simp [Res.bind, manO]
    | _ => simp [Res.bind, ofRow]
theorem loadN_all {cs : List AV} {n : Nat} (h : cs.all AV.cell = true) (hn : n = cs.length) : loadN cs 0 n = some cs := by
  subst hn
  simp [loadN, h]
theorem st_s {n : Nat} (hn : v.cells.length = n) (hc : v.cells.all AV.cell = true) : stK (some (.ptr id o)) (some v) n f H = ofRw (H.get id) (fun cs u e => okO (decide (o + n ≤ cs.length)) fun H => f undefA (H.set id (some (.row (splice cs o v.cells) u e)))) H := by
  simp only [stK, bd, stoA, Heap.put, ofO, hn, hc, if_true]
  cases H.get id with
  | none => simp [Res.bind, ofRw]
  | some a => cases a with
    | row cs u e =>
      by_cases h : o + n ≤ cs.length
      · simp [h, Res.bind, ofRw, okO]
      · simp [h, Res.bind, ofRw, okO]
    | _ => simp [Res.bind, ofRw]
end
theorem loadN_zero {cs : List AV} : loadN cs 0 0 = some [] := by simp [loadN]
theorem loadN_step {a : AV} {cs : List AV} {o n : Nat} : loadN (a :: cs) (o + 1) n = loadN cs o n := by
  simp only [loadN, List.length_cons, List.drop_succ_cons]
  have : (o + 1 + n ≤ cs.length + 1) = (o + n ≤ cs.length) := by rw [eq_iff_iff]; omega
  simp only [this]
theorem loadN_cons {a : AV} {cs : List AV} {n : Nat} (h : a.cell = true) : loadN (a :: cs) 0 (n + 1) = (loadN cs 0 n).map (a :: ·) := by
  simp only [loadN, List.length_cons, List.drop_zero, List.take_succ_cons, List.all_cons, h, Bool.true_and]
  by_cases h1 : 0 + n ≤ cs.length ∧ (List.take n cs).all AV.cell = true
  · rw [if_pos h1, if_pos ⟨by omega, h1.2⟩]; rfl
  · rw [if_neg h1, if_neg (fun h2 => h1 ⟨by omega, h2.2⟩)]; rfl
theorem splice_step {a : AV} {cs l : List AV} {o : Nat} : splice (a :: cs) (o + 1) l = a :: splice cs o l := by
  simp only [splice, List.take_succ_cons, List.cons_append]
  have : o + 1 + l.length = (o + l.length) + 1 := by omega
  rw [this, List.drop_succ_cons]
theorem splice_cons {a b : AV} {cs l : List AV} : splice (a :: cs) 0 (b :: l) = b :: splice cs 0 l := by
  simp only [splice, List.take_zero, List.nil_append, List.length_cons, List.cons_append]
  have : 0 + (l.length + 1) = (0 + l.length) + 1 := by omega
  rw [this, List.drop_succ_cons]
theorem splice_nil {cs : List AV} : splice cs 0 [] = cs := by simp [splice]
theorem splice_all {cs l : List AV} (h : l.length = cs.length) : splice cs 0 l = l := by simp [splice, h]
theorem fill_nil {pl : Nat → Option (Nat × Nat)} {cells : List AV} : fillA pl cells [] = some cells := rfl
theorem fill_cons {pl : Nat → Option (Nat × Nat)} {cells : List AV} {i : Nat} {v : AV} {l : List (Nat × AV)} : fillA pl cells ((i, v) :: l) = (match pl i with
    | none => none
    | some (off, size) => if v.cells.length = size ∧ off + size ≤ cells.length then fillA pl (splice cells off v.cells) l else none) := rfl
theorem prt_nil : prtO [] = some [] := rfl
theorem prt_cons {i : Nat} {v : AV} {l : List (Nat × Option AV)} {ps : List (Nat × AV)} (h : prtO l = some ps) : prtO ((i, some v) :: l) = some ((i, v) :: ps) := by simp only [prtO, h]
theorem all_nil : allO [] = some [] := rfl
theorem all_cons {v : AV} {l : List (Option AV)} : allO (some v :: l) = (allO l).map (v :: ·) := by
  simp only [allO]
  cases allO l <;> rfl
theorem prt_cons' {i : Nat} {v : AV} {l : List (Nat × Option AV)} : prtO ((i, some v) :: l) = (prtO l).map ((i, v) :: ·) := by
  simp only [prtO]
  cases prtO l <;> rfl
section
variable {f : AV → M} {H : Heap} {v x y : AV}
theorem bld_s {pl : List (Nat × Nat)} {z : List AV} {ps : List (Nat × Option AV)} : bldZ pl z ps f H = (match prtO ps with
    | some ps => (match fillA (fun i => pl[i]?) z ps with
      | some l => f (.agg l) H
      | none => .fail)
    | none => .fail) := by
  unfold bldZ bd ofO
  cases prtO ps with
  | none => rfl
  | some ps => simp only; cases fillA (fun i => pl[i]?) z ps <;> rfl
theorem bsl_s {e : TypeId} {z : List AV} {n : Nat} {ps : List (Nat × Option AV)} (h : n * z.length ≤ 16777216) : bslZ e z n ps f H = (match prtO ps with
    | some ps => (match fillA (fun i => some (i * z.length, z.length)) (repeatL z n) ps with
      | some cs => (match cs.all AV.cell with
        | true => f (.sl H.next 0 n (.exact n)) (H.alloc (.row cs .new e))
        | false => .fail)
      | none => .fail)
    | none => .fail) := by
  unfold bslZ bd ofO bslA
  cases prtO ps with
  | none => rfl
  | some ps =>
    simp only [if_pos h]
    cases fillA (fun i => some (i * z.length, z.length)) (repeatL z n) ps with
    | none => rfl
    | some cs => cases hc : cs.all AV.cell <;> simp [Res.bind, hc]
theorem cal_s {call : FuncId → List AV → M} {g : FuncId} {a c : List AV} {args : List (Option AV)} : calK (some (.fn g a c)) call args f H = (match allO args with
    | some as => bd (call g (a ++ as ++ c) H) f
    | none => .fail) := by
  unfold calK bd ofO
  cases allO args <;> rfl
theorem lenS_s {x : AV} : lenSZ (some x) f H = (match x with
      | .sl _ _ n _ => f (.int .i64 n) H
      | .nils => f (.int .i64 0) H
      | .emp _ => f (.int .i64 0) H
      | _ => .fail) := by
  unfold lenSZ bd ofO
  cases x <;> rfl
theorem lenT_s {s : ByteArray} : lenTZ (some (.str s)) f H = f (.int .i64 s.size) H := rfl
theorem lenM_s {id : Nat} : lenMZ (some (.mp (some id))) f H = ofMp (H.get id) (fun es => f (.int .i64 es.length)) H := by
  unfold lenMZ bd ofO
  simp only [allO, lenM]
  cases H.get id with
  | none => rfl
  | some o => cases o <;> rfl
theorem fv1_s {l : List AV} {o : Nat} : fv1Z (some (.agg l)) o f H = (match l[o]? with
    | some v => f v H
    | none => .fail) := by
  simp only [fv1Z, bd, ofO, fv1A]
  cases l[o]? <;> rfl
theorem fvN_s {l : List AV} {o n : Nat} (h : o + n ≤ l.length) : fvNZ (some (.agg l)) o n f H = f (.agg ((l.drop o).take n)) H := by
  unfold fvNZ bd ofO fvNA
  simp only [if_pos h]
  rfl
end

section
variable {H : Heap} {id o n : Nat} {β : Type}
def ofRowO (o : Option AObj) (g : List AV → Option AV) : Option AV := match o with
  | some (.row cs _ _) => g cs
  | some (.ro (a :: cs)) => g (a :: cs)
  | _ => none
theorem ofRowO_row {cs : List AV} {u : Fill} {e : TypeId} {g : List AV → Option AV} : ofRowO (some (.row cs u e)) g = g cs := rfl
theorem ofRowO_ro {a : AV} {cs : List AV} {g : List AV → Option AV} : ofRowO (some (.ro (a :: cs))) g = g (a :: cs) := rfl
theorem ldA_s : ldA (n + 1) (.ptr id o) H = ofRowO (H.get id) fun cs => (loadN cs o (n + 1)).map .agg := by
  simp only [ldA, Heap.at_, Heap.cells]
  cases H.get id with
  | none => rfl
  | some a => cases a with
    | ro cs =>
      simp only [Nat.zero_lt_succ, if_true]
      cases cs with
      | nil =>
        have : loadN [] o (n + 1) = none := by simp [loadN]
        rw [this]
        rfl
      | cons b cs => rfl
    | row cs _ _ => simp only [Nat.zero_lt_succ, if_true]; rfl
    | _ => rfl
theorem om_a {l : List AV} : Option.map AV.agg (some l) = some (.agg l) := rfl
theorem ofO_av {a : AV} {g : AV → Res (AV × Heap)} : ofO (some a) g = g a := rfl
theorem ob_av {a : AV} {g : AV → Option AV} : (some a).bind g = g a := rfl
theorem ret_all {a : AV × Heap} {Q : AV × Heap → Prop} : (Res.ret a).all Q ↔ Q a := Iff.rfl
end

/-! ### What has been made lies behind what was there -/
/-- Nothing that was there has turned. -/
structure Grown (H H' : Heap) : Prop where
  next : H.next ≤ H'.next
  gl : H'.gl = H.gl
  get : ∀ i, i < H.next → H'.get i = H.get i
theorem Grown.refl (H : Heap) : Grown H H := ⟨Nat.le_refl _, rfl, fun _ _ => rfl⟩
theorem Grown.trans {H H' H'' : Heap} (h : Grown H H') (k : Grown H' H'') : Grown H H'' :=
  ⟨Nat.le_trans h.next k.next, k.gl.trans h.gl, fun i hi => (k.get i (Nat.lt_of_lt_of_le hi h.next)).trans (h.get i hi)⟩
theorem Grown.alloc {H H' : Heap} (h : Grown H H') (o : AObj) : Grown H (H'.alloc o) :=
  ⟨by have := h.next; simp; omega, h.gl, fun i hi => by have := h.next; rw [get_alloc_ne (by omega)]; exact h.get i hi⟩
theorem Grown.set {H H' : Heap} (h : Grown H H') {i : Nat} (hi : H.next ≤ i) (o : Option AObj) : Grown H (H'.set i o) :=
  ⟨by simpa using h.next, h.gl, fun j hj => by rw [get_set_ne (by omega)]; exact h.get j hj⟩
theorem Grown.bump {H H' : Heap} (h : Grown H H') (k : Nat) : Grown H { H' with next := H'.next + k } :=
  ⟨by have := h.next; show H.next ≤ H'.next + k; omega, h.gl, h.get⟩

/-! ### What a call comes to -/
def LIM : Nat := 18446744073709551616
/-- A function, called so: it comes back, and so it stands then. (d: how deep calls go.) -/
def Spec (P : Program) (L : Lib) (d : Nat) (f : FuncId) (args : List AV) (H : Heap) (Q : AV → Heap → Prop) : Prop :=
  ∀ m, LIM ≤ m → (callA P L (m + d) f args H).all fun r => Q r.1 r.2
/-- A function is run by its body, marked so. -/
def Use (L : Lib) (f : FuncId) (a : Ann) : Prop := L.sum f = none ∧ L.ann f = a
theorem Spec.use {L : Lib} {d d' : Nat} {g : FuncId} {args : List AV} {H : Heap} {Q' : AV → Heap → Prop} (h : Spec P L d' g args H Q') {m : Nat} (hm : LIM ≤ m) {f : AV → M} {Q : AV × Heap → Prop} (hd : d' ≤ d) (hk : ∀ v H', Q' v H' → (f v H').all Q) :
    (bd (callA P L (m + d) g args H) f).all Q := by
  refine Res.all_bind.2 (Res.all_mono ?_ fun r hr => hk r.1 r.2 hr)
  have := h (m + (d - d')) (by omega)
  rwa [show m + (d - d') + d' = m + d by omega] at this
theorem Spec.mono {L : Lib} {d : Nat} {g : FuncId} {args : List AV} {H : Heap} {Q Q' : AV → Heap → Prop} (h : Spec P L d g args H Q) (hq : ∀ v H', Q v H' → Q' v H') : Spec P L d g args H Q' :=
  fun m hm => Res.all_mono (h m hm) fun r hr => hq r.1 r.2 hr

/-! ### Simp sets (no universes in them) -/
section
variable {a b : AV} {l l' : List AV} {i : Nat} {p : Nat × Nat} {pl : List (Nat × Nat)}
theorem ge_z : (a :: l)[0]? = some a := rfl
theorem ge_s : (a :: l)[i + 1]? = l[i]? := rfl
theorem gp_z : (p :: pl)[0]? = some p := rfl
theorem gp_s : (p :: pl)[i + 1]? = pl[i]? := rfl
theorem om_l {g : List AV → List AV} : Option.map g (some l) = some (g l) := rfl
theorem om_p {ps : List (Nat × AV)} {g : List (Nat × AV) → List (Nat × AV)} : Option.map g (some ps) = some (g ps) := rfl
theorem al_c {g : AV → Bool} : (a :: l).all g = (g a && l.all g) := rfl
theorem al_n {g : AV → Bool} : ([] : List AV).all g = true := rfl
theorem le_c : (a :: l).length = l.length + 1 := rfl
theorem le_n : ([] : List AV).length = 0 := rfl
theorem ap_n : [] ++ l = l := rfl
theorem ap_e : l ++ [] = l := List.append_nil l
theorem ap_c : (a :: l) ++ l' = a :: (l ++ l') := rfl
end
def wb := And.intro @mv_s <| And.intro @pick_t <| And.intro @pick_f <| And.intro @box_s <| And.intro @alc_s <| And.intro @map_s <| And.intro @unk_not <| And.intro @unk_neg <| And.intro @cnv_s <| And.intro @cnd_s <| And.intro @grd_t <| And.intro @grd_f <| And.intro @grd_ut <| And.intro @grd_u <| And.intro @bin_add <| And.intro @bin_sub <| And.intro @bin_mul <| And.intro @bin_eql <| And.intro @bin_neq <| And.intro @bin_lss <| And.intro @bin_leq <| And.intro @bin_gtr <| And.intro @bin_geq <| And.intro @bin_quo <| And.intro @bin_rem <| And.intro @bin_and <| And.intro @bin_or <| And.intro @bin_xor <| And.intro @bin_shl <| And.intro @bin_shr <| And.intro @exr_s <| And.intro @fld_s <| And.intro @fld_g <| And.intro @ld1_s <| And.intro @ldn_s <| And.intro @st_s <| And.intro @br_true <| And.intro @br_false <| And.intro @br_not <| And.intro @bld_s <| And.intro @bsl_s <| And.intro @cal_s <| And.intro @lenT_s <| And.intro @fv1_s <| And.intro @fvN_s <| And.intro @bin_seq @bin_sne
def wk := And.intro @seqK_norm <| And.intro @seqK_exit <| And.intro @seqK_ret <| And.intro @blkK_norm <| And.intro @blkK_ret <| And.intro @blkK_same <| And.intro @blkK_other <| And.intro @lopK_norm <| And.intro @lopK_exit <| And.intro @lopK_ret <| And.intro @keep_rg <| And.intro @keepL_nil <| And.intro @keepL_yes <| And.intro @keepL_no <| And.intro @getL_same <| And.intro @getL_ne <| And.intro @res0 <| And.intro @res1 <| And.intro @res2 <| And.intro @res3 <| And.intro @prt_nil <| And.intro @prt_cons' <| And.intro @all_nil <| And.intro @all_cons <| And.intro @fill_nil <| And.intro @fill_cons <| And.intro @loadN_zero <| And.intro @loadN_step <| And.intro @loadN_cons <| And.intro @splice_nil <| And.intro @splice_step <| And.intro @splice_cons <| And.intro @ge_z <| And.intro @ge_s <| And.intro @gp_z <| And.intro @gp_s <| And.intro @get_alloc_eq <| And.intro @ofRow_row <| And.intro @ofRow_ro <| And.intro @ofRw_row <| And.intro @ofMp_map <| And.intro @oneO_s <| And.intro @manO_s <| And.intro @okO_s <| And.intro @get_alloc_ne <| And.intro @get_set_same <| And.intro @get_set_ne <| And.intro @nx_alloc <| And.intro @nx_set <| And.intro @om_l <| And.intro @om_a <| And.intro @ofO_av <| And.intro @ob_av <| And.intro @ret_all <| And.intro @ldA_s <| And.intro @ofRowO_row <| And.intro @ofRowO_ro <| And.intro @om_p <| And.intro @al_c <| And.intro @al_n <| And.intro @le_c <| And.intro @le_n <| And.intro @ap_n <| And.intro @ap_e @ap_c
end Go.Proofs.YtlcfkeigipkhlaaGreatDoorAbs
