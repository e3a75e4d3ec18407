/- Single operations: arithmetic, comparisons, conversions, places, parts, cuts. -/
import Derived.Test.YtlcfkeigipkhlaaGreatDoorOps2
import Derived.Laws.Small
import Derived.Laws.StructEq
set_option linter.unusedVariables false
set_option linter.unusedSimpArgs false
namespace Go.Proofs.YtlcfkeigipkhlaaGreatDoorAbs
open Go.RowKit
variable {P : Program}

theorem toList_data (s : ByteArray) : s.toList = s.data.toList := ByteArray.toList_eq s

theorem intA_sound {ρ : Env} {op : BinOp} {k : IntKind} {x y : Int} {v : AV} {t : TypeId} {w : World} (h : intA op k x y = some v) (hs : op ≠ .shl) (hs' : op ≠ .shr) :
    (binOp op t (.int k x) (.int k y)).run P w = .ok (ren ρ v) w ∧ ∀ n, v.bd n := by
  cases op <;> simp only [intA, intBitsA] at h <;> first
    | (injection h with h; subst h; simp [binOp, Op.intArith, Op.intCmp, Op.intBits, Op.intDiv, ren, AV.bd])
    | (split at h
       · cases h
       · rename_i h0; injection h with h; subst h; simp [binOp, Op.intDiv, h0, ren, AV.bd])
    | exact absurd rfl hs
    | exact absurd rfl hs'
    | cases h
theorem shiftA_sound {ρ : Env} {op : BinOp} {k yk : IntKind} {x y : Int} {v : AV} {t : TypeId} {w : World} (h : shiftA op k x y = some v) :
    (binOp op t (.int k x) (.int yk y)).run P w = .ok (ren ρ v) w ∧ ∀ n, v.bd n := by
  unfold shiftA at h
  split at h
  · cases h
  · rename_i h0
    cases op <;> simp only at h <;> first
      | (injection h with h; subst h; simp [binOp, Op.shift, h0, ren, AV.bd])
      | cases h
theorem strA_sound {ρ : Env} {op : BinOp} {x y : ByteArray} {v : AV} {t : TypeId} {w : World} (h : strA op x y = some v) :
    (binOp op t (.string x) (.string y)).run P w = .ok (ren ρ v) w ∧ ∀ n, v.bd n := by
  cases op <;> simp only [strA] at h <;> first
    | (injection h with h; subst h; simp [binOp, Op.stringOp, toList_data, ren, AV.bd])
    | (split at h
       · rename_i h0
         injection h with h
         subst h
         have h1 : ¬ ((x.size : Int) + (y.size : Int) > IntKind.i64.max) := by
           unfold IntKind.max IntKind.signed IntKind.bits
           simp only [if_true]
           omega
         refine ⟨?_, fun n => by simp [AV.bd]⟩
         simp only [binOp, Op.stringOp]
         rw [if_neg (by simpa using h1)]
         have : x ++ y = ⟨x.data ++ y.data⟩ := by
           apply ByteArray.ext
           simp
         simp [ren, this]
       · cases h)
    | cases h

/-! ### '==' -/
def KindT (P : Program) (t : TypeId) : PK → Prop
  | .b => P.underlying t = some .bool
  | .i => ∃ k, P.underlying t = some (.int k)
  | .s => P.underlying t = some .string
theorem eqPlain_run {ρ : Env} {k : PK} {a b : AV} {r : Bool} {t : TypeId} {w : World} (d : Nat) (h : eqPlain k a b = some r)
    (ht : KindT P t k) :
    (Op.equalIn (d + 1) t (ren ρ a) (ren ρ b)).run P w = .ok r w := by
  cases k with
  | b =>
    cases a <;> cases b <;> simp only [eqPlain] at h <;> first
      | (injection h with h; subst h; simp only [ren]; exact run_equalIn_bool' w d t _ _ ht)
      | cases h
  | i =>
    cases a <;> cases b <;> simp only [eqPlain] at h <;> first
      | (split at h
         · rename_i hk
           injection h with h
           subst h hk
           obtain ⟨k', ht⟩ := ht
           simp only [ren]
           exact run_equalIn_int w d t _ k' _ _ ht
         · cases h)
      | cases h
  | s =>
    cases a <;> cases b <;> simp only [eqPlain] at h <;> first
      | (injection h with h; subst h; simp only [ren]; rw [run_equalIn_string w d t _ _ ht, toList_data, toList_data])
      | cases h
theorem eqCells_append {ks ks' : List PK} : ∀ {as bs as' bs' : List AV} {r : Bool}, as.length = ks.length → bs.length = ks.length → eqCells (ks ++ ks') (as ++ as') (bs ++ bs') = some r →
    (eqCells ks as bs = some false ∧ r = false) ∨ (eqCells ks as bs = some true ∧ eqCells ks' as' bs' = some r) := by
  induction ks with
  | nil =>
    intro as bs as' bs' r h1 h2 h
    obtain rfl : as = [] := List.eq_nil_of_length_eq_zero h1
    obtain rfl : bs = [] := List.eq_nil_of_length_eq_zero h2
    exact .inr ⟨rfl, h⟩
  | cons k ks ih =>
    intro as bs as' bs' r h1 h2 h
    cases as with
    | nil => simp at h1
    | cons a as =>
      cases bs with
      | nil => simp at h2
      | cons b bs =>
        simp only [List.cons_append, eqCells] at h ⊢
        cases he : eqPlain k a b with
        | none => simp [he] at h
        | some x =>
          cases x with
          | true => simp only [he] at h ⊢; exact ih (by simpa using h1) (by simpa using h2) h
          | false => simp only [he] at h ⊢; injection h with h; exact .inl ⟨trivial, h.symm⟩
theorem eqCells_length {ks : List PK} : ∀ {as bs : List AV}, eqCells ks as bs = some true → as.length = ks.length ∧ bs.length = ks.length := by
  induction ks with
  | nil => intro as bs h; cases as <;> cases bs <;> simp [eqCells] at h ⊢
  | cons k ks ih =>
    intro as bs h
    cases as with
    | nil => simp [eqCells] at h
    | cons a as =>
      cases bs with
      | nil => simp [eqCells] at h
      | cons b bs =>
        simp only [eqCells] at h
        cases he : eqPlain k a b with
        | none => simp [he] at h
        | some x =>
          cases x with
          | true => simp only [he] at h; have := ih h; simp [this]
          | false => simp [he] at h

theorem ren_extract {ρ : Env} (cs : List AV) (off n : Nat) : (cs.map (ren ρ)).toArray.extract off (off + n) = (((cs.drop off).take n).map (ren ρ)).toArray := by
  apply Array.ext_getElem?
  intro i
  simp only [Array.getElem?_extract, List.size_toArray, List.length_map, List.getElem?_toArray, List.getElem?_map]
  by_cases hi : i < n
  · rw [List.getElem?_take_of_lt hi, List.getElem?_drop]
    by_cases h2 : off + i < cs.length
    · rw [if_pos (by omega)]
    · rw [if_neg (by omega), List.getElem?_eq_none (by omega)]
      rfl
  · rw [if_neg (by omega), List.getElem?_eq_none (by simp; omega)]
    rfl
theorem split_at {cs : List AV} {off n m : Nat} (h : off + n + m ≤ cs.length) : (cs.drop off).take (n + m) = (cs.drop off).take n ++ (cs.drop (off + n)).take m := by
  rw [List.take_add, List.drop_drop]

/-- What '==' of a type of plain cells tells of two runs of cells. -/
def EqAt (P : Program) (D : Nat) (t : TypeId) (ks : List PK) : Prop :=
  ∀ (ρ : Env) (w : World) (xs ys : List AV) (off : Nat) (r : Bool), off + ks.length ≤ xs.length → off + ks.length ≤ ys.length → eqCells ks ((xs.drop off).take ks.length) ((ys.drop off).take ks.length) = some r → sizA P t = some ks.length →
    ∃ a b, (part t (xs.map (ren ρ)).toArray off).run P w = .ok a w ∧ (part t (ys.map (ren ρ)).toArray off).run P w = .ok b w ∧ (∀ d, D ≤ d → (Op.equalIn d t a b).run P w = .ok r w) ∧
      (aggA P t = some true → a = .agg (((xs.drop off).take ks.length).map (ren ρ)).toArray ∧ b = .agg (((ys.drop off).take ks.length).map (ren ρ)).toArray)
theorem part_agg {ρ : Env} {t : TypeId} {cs : List AV} {off n : Nat} {w : World} (ha : aggA P t = some true) (hs : sizA P t = some n) : (part t (cs.map (ren ρ)).toArray off).run P w = .ok (.agg (((cs.drop off).take n).map (ren ρ)).toArray) w := by
  simp only [part, Sem.run_bind, run_agg ha, Result.andThen_ok, if_true, run_siz hs, Sem.run_pure, ren_extract]
theorem part_cell {ρ : Env} {t : TypeId} {cs : List AV} {off : Nat} {v : AV} {w : World} (ha : aggA P t = some false) (hv : cs[off]? = some v) : (part t (cs.map (ren ρ)).toArray off).run P w = .ok (ren ρ v) w := by
  simp only [part, Sem.run_bind, run_agg ha, Result.andThen_ok, Bool.false_eq_true, if_false, List.getElem?_toArray, List.getElem?_map, hv, Option.map_some, Sem.run_pure]
theorem eqAt_cell {t : TypeId} {k : PK} {D : Nat} (ha : aggA P t = some false) (ht : KindT P t k) : EqAt P (D + 1) t [k] := by
  intro ρ w xs ys off r h1 h2 he hs
  simp only [List.length_singleton] at h1 h2 he
  obtain ⟨a, hx⟩ : ∃ a, xs[off]? = some a := ⟨_, List.getElem?_eq_getElem (by omega)⟩
  obtain ⟨b, hy⟩ : ∃ b, ys[off]? = some b := ⟨_, List.getElem?_eq_getElem (by omega)⟩
  have ex : (xs.drop off).take 1 = [a] := by
    rw [List.getElem?_eq_some_iff] at hx
    obtain ⟨hlt, hx⟩ := hx
    rw [List.drop_eq_getElem_cons hlt, hx]
    rfl
  have ey : (ys.drop off).take 1 = [b] := by
    rw [List.getElem?_eq_some_iff] at hy
    obtain ⟨hlt, hy⟩ := hy
    rw [List.drop_eq_getElem_cons hlt, hy]
    rfl
  rw [ex, ey] at he
  simp only [eqCells] at he
  refine ⟨_, _, part_cell ha hx, part_cell ha hy, fun d hd => ?_, fun h => by rw [ha] at h; cases h⟩
  obtain ⟨d, rfl⟩ : ∃ k, d = k + 1 := ⟨d - 1, by omega⟩
  cases hp : eqPlain k a b with
  | none => simp [hp] at he
  | some x =>
    have : x = r := by cases x <;> simp [hp] at he <;> exact he.symm
    subst this
    exact eqPlain_run d hp ht
theorem eqFields_run {D : Nat} {pl : TypeId → Option (List PK)} (hpl : ∀ t ks, pl t = some ks → EqAt P D t ks) (ρ : Env) (w : World) (xs ys : List AV) (d : Nat) (hd : D ≤ d) : ∀ (fs : List Field) (off : Nat) (ks : List PK) (r : Bool), plainFs P pl off fs = some ks → off + ks.length ≤ xs.length → off + ks.length ≤ ys.length →
    eqCells ks ((xs.drop off).take ks.length) ((ys.drop off).take ks.length) = some r → (Op.eqFields d (xs.map (ren ρ)).toArray (ys.map (ren ρ)).toArray fs).run P w = .ok r w
  | [], off, ks, r, h, h1, h2, he => by
    simp [plainFs] at h
    subst h
    simp [eqCells] at he
    subst he
    simp [Op.eqFields]
  | f :: fs, off, ks, r, h, h1, h2, he => by
    simp only [plainFs] at h
    split at h
    · rename_i ks1 n hk hn
      split at h
      · rename_i hc
        obtain ⟨c1, c2, c3⟩ := hc
        cases hr : plainFs P pl (off + n) fs with
        | none => simp [hr] at h
        | some ks2 =>
          simp [hr] at h
          subst h
          simp only [List.length_append] at h1 h2 he
          rw [split_at (by omega), split_at (by omega)] at he
          subst c2 c3
          have key : ∀ r1, eqCells ks1 ((xs.drop f.offset).take ks1.length) ((ys.drop f.offset).take ks1.length) = some r1 → ∃ a b, (part f.type (xs.map (ren ρ)).toArray f.offset).run P w = .ok a w ∧ (part f.type (ys.map (ren ρ)).toArray f.offset).run P w = .ok b w ∧ (Op.equalIn d f.type a b).run P w = .ok r1 w := by
            intro r1 h
            obtain ⟨a, b, e1, e2, e3, _⟩ := hpl _ _ hk ρ w xs ys f.offset r1 (by omega) (by omega) h hn
            exact ⟨a, b, e1, e2, e3 d hd⟩
          rw [Op.eqFields]
          simp only [if_pos c1, Sem.run_bind]
          rcases eqCells_append (by simp; omega) (by simp; omega) he with ⟨e1, rfl⟩ | ⟨e1, e2⟩
          · obtain ⟨a, b, k1, k2, k3⟩ := key _ e1
            simp [k1, k2, k3]
          · obtain ⟨a, b, k1, k2, k3⟩ := key _ e1
            simp only [k1, k2, k3, Result.andThen_ok, Bool.not_true, Bool.false_eq_true, if_false]
            exact eqFields_run hpl ρ w xs ys d hd fs _ ks2 r hr (by omega) (by omega) e2
      · cases h
    · cases h
theorem repeatK_length (ks : List PK) : ∀ n, (repeatK ks n).length = n * ks.length
  | 0 => by simp [repeatK]
  | n + 1 => by simp [repeatK, repeatK_length ks n, Nat.add_mul]; omega
/-- The model's loop over an array. -/
def eqElems (d : Nat) (e : TypeId) (n : Nat) (xs ys : Array Value) : Nat → Nat → Sem Bool
  | _, 0 => pure true
  | i, k + 1 => do
    let a ← part e xs (i * n)
    let b ← part e ys (i * n)
    let r ← Op.equalIn d e a b
    if (!r) = true then pure false else eqElems d e n xs ys (i + 1) k
theorem run_equalIn_array {w : World} (d : Nat) {t e : TypeId} {len n : Nat} (xs ys : Array Value) (ht : P.underlying t = some (.array len e)) (hs : sizA P e = some n) : (Op.equalIn (d + 1) t (.agg xs) (.agg ys)).run P w = (eqElems d e n xs ys 0 len).run P w := by
  simp only [Op.equalIn, Sem.run_bind, run_und ht, Result.andThen_ok, run_siz hs]
  have hr : ([:len] : Std.Legacy.Range) = [0:len] := rfl
  rw [Std.Legacy.Range.forIn_eq_forIn_range']
  have hl : List.range' ([:len] : Std.Legacy.Range).start ([:len] : Std.Legacy.Range).size ([:len] : Std.Legacy.Range).step = List.range' 0 len := by simp
  rw [hl]
  clear ht hr hl
  generalize 0 = i
  induction len generalizing w i with
  | zero => simp [eqElems]
  | succ k ih =>
    rw [List.range'_succ]
    simp only [List.forIn_cons, eqElems, Sem.run_bind]
    generalize (part e xs (i * n)).run P w = r1
    cases r1 with
    | ok a w1 =>
      simp only [Result.andThen_ok]
      generalize (part e ys (i * n)).run P w1 = r2
      cases r2 with
      | ok b w2 =>
        simp only [Result.andThen_ok]
        generalize (Op.equalIn d e a b).run P w2 = r3
        cases r3 with
        | ok r w3 =>
          cases r
          · simp only [Result.andThen_ok, Bool.not_false, if_true, Sem.run_pure]
          · simp only [Result.andThen_ok, Bool.not_true, Bool.false_eq_true, if_false, Sem.run_pure]
            exact ih (i + 1)
        | halt x w3 => simp [Result.andThen]
      | halt x w2 => simp [Result.andThen]
    | halt x w1 => simp [Result.andThen]

theorem eqElems_run {D : Nat} {e : TypeId} {ks : List PK} (hpl : EqAt P D e ks) (hs : sizA P e = some ks.length) (ρ : Env) (w : World) (xs ys : List AV) (d : Nat) (hd : D ≤ d) : ∀ (k i : Nat) (r : Bool), (i + k) * ks.length ≤ xs.length → (i + k) * ks.length ≤ ys.length →
    eqCells (repeatK ks k) ((xs.drop (i * ks.length)).take (k * ks.length)) ((ys.drop (i * ks.length)).take (k * ks.length)) = some r → (eqElems d e ks.length (xs.map (ren ρ)).toArray (ys.map (ren ρ)).toArray i k).run P w = .ok r w
  | 0, i, r, h1, h2, h => by
    simp [repeatK, eqCells] at h
    subst h
    simp [eqElems]
  | k + 1, i, r, h1, h2, h => by
    have hm : (i + (k + 1)) * ks.length = i * ks.length + ks.length + k * ks.length := by rw [Nat.add_mul, Nat.add_mul, Nat.one_mul]; omega
    have hk : (k + 1) * ks.length = ks.length + k * ks.length := by rw [Nat.add_mul, Nat.one_mul]; omega
    have hi : (i + 1) * ks.length = i * ks.length + ks.length := by rw [Nat.add_mul, Nat.one_mul]
    rw [hm] at h1 h2
    rw [hk, split_at (by omega), split_at (by omega)] at h
    simp only [repeatK] at h
    simp only [eqElems, Sem.run_bind]
    rcases eqCells_append (by simp; omega) (by simp; omega) h with ⟨e1, rfl⟩ | ⟨e1, e2⟩
    · obtain ⟨a, b, k1, k2, k3, _⟩ := hpl ρ w xs ys _ _ (by omega) (by omega) e1 hs
      simp [k1, k2, k3 d hd]
    · obtain ⟨a, b, k1, k2, k3, _⟩ := hpl ρ w xs ys _ _ (by omega) (by omega) e1 hs
      simp only [k1, k2, k3 d hd, Result.andThen_ok, Bool.not_true, Bool.false_eq_true, if_false]
      rw [← hi] at e2
      exact eqElems_run hpl hs ρ w xs ys d hd k (i + 1) r (by rw [show i + 1 + k = i + (k + 1) from by omega, hm]; omega) (by rw [show i + 1 + k = i + (k + 1) from by omega, hm]; omega) e2

theorem plain_eq : ∀ (D : Nat) (t : TypeId) (ks : List PK), plainT P D t = some ks → EqAt P D t ks
  | 0, t, ks, h => by simp [plainT] at h
  | D + 1, t, ks, h => by
    simp only [plainT] at h
    split at h
    · rename_i hu
      injection h with h
      subst h
      exact eqAt_cell (by simp [aggA, hu]) hu
    · rename_i k hu
      injection h with h
      subst h
      exact eqAt_cell (by simp [aggA, hu]) ⟨k, hu⟩
    · rename_i hu
      injection h with h
      subst h
      exact eqAt_cell (by simp [aggA, hu]) hu
    · rename_i fs hu
      split at h
      · rename_i hst
        intro ρ w xs ys off r h1 h2 he hs
        have ha : aggA P t = some true := by simp [aggA, hu]
        refine ⟨_, _, part_agg ha hs, part_agg ha hs, fun d hd => ?_, fun _ => ⟨rfl, rfl⟩⟩
        obtain ⟨d, rfl⟩ : ∃ k, d = k + 1 := ⟨d - 1, by omega⟩
        have hf : P.fieldsOf t = fs := by simp [Program.fieldsOf, hu]
        rw [run_equalIn_struct w d t _ _ (by rw [hf]; exact hu) hst, hf]
        refine eqFields_run (plain_eq D) ρ w _ _ d (by omega) fs.toList 0 ks r h (by simp; omega) (by simp; omega) ?_
        rw [List.drop_zero, List.drop_zero, List.take_take, List.take_take, Nat.min_self]
        exact he
      · cases h
    · rename_i len e hu
      split at h
      · rename_i ks1 hk
        split at h
        · rename_i hse
          injection h with h
          subst h
          intro ρ w xs ys off r h1 h2 he hs
          have ha : aggA P t = some true := by simp [aggA, hu]
          refine ⟨_, _, part_agg ha hs, part_agg ha hs, fun d hd => ?_, fun _ => ⟨rfl, rfl⟩⟩
          obtain ⟨d, rfl⟩ : ∃ k, d = k + 1 := ⟨d - 1, by omega⟩
          rw [run_equalIn_array d _ _ hu hse]
          rw [repeatK_length] at h1 h2 he ⊢
          refine eqElems_run (plain_eq D e ks1 hk) hse ρ w _ _ d (by omega) len 0 r (by simp; omega) (by simp; omega) ?_
          rw [Nat.zero_mul, List.drop_zero, List.drop_zero, List.take_take, List.take_take, Nat.min_self]
          exact he
        · cases h
      · cases h
    · cases h

/-- '==' of two aggregates, whole. -/
theorem eqAgg_run {ρ : Env} {w : World} {t : TypeId} {ks : List PK} {xs ys : List AV} {r : Bool} {d : Nat} (h : plainT P 8 t = some ks) (ha : aggA P t = some true) (he : eqCells ks xs ys = some r) (hl : xs.length = ks.length ∧ ys.length = ks.length) (hs : sizA P t = some ks.length) (hd : 8 ≤ d) :
    (Op.equalIn d t (ren ρ (.agg xs)) (ren ρ (.agg ys))).run P w = .ok r w := by
  have hx : (xs.drop 0).take ks.length = xs := by rw [List.drop_zero, ← hl.1, List.take_length]
  have hy : (ys.drop 0).take ks.length = ys := by rw [List.drop_zero, ← hl.2, List.take_length]
  obtain ⟨a, b, e1, e2, e3, e4⟩ := plain_eq 8 t ks h ρ w xs ys 0 r (by omega) (by omega) (by rw [hx, hy]; exact he) hs
  obtain ⟨rfl, rfl⟩ := e4 ha
  have := e3 d hd
  rw [hx, hy] at this
  simpa [ren] using this

theorem eqA_sound {ρ : Env} {w : World} {op : BinOp} {t : TypeId} {xo yo : Operand} {x y : AV} {r : Bool} (h : eqA P op t x y = some r) :
    (eqGuard op t xo yo (ren ρ x) (ren ρ y)).run P w = .ok () w ∧ (Op.equal t (ren ρ x) (ren ρ y)).run P w = .ok r w := by
  unfold Op.equal Op.maxDepth
  unfold eqA at h
  split at h
  · split at h
    · rename_i hu
      injection h with h
      subst h
      simp only [ren]
      exact ⟨by cases op <;> simp [eqGuard], run_equalIn_bool' w _ t _ _ hu⟩
    · cases h
  · split at h
    · rename_i a b ks hk ha
      split at h
      · rename_i hc
        obtain ⟨h1, h2, h3, h4⟩ := hc
        refine ⟨by simp only [ren]; exact run_eqGuard_agg w op t xo yo _ _ h1, eqAgg_run hk ha h ⟨h2, h3⟩ h4 (by omega)⟩
      · cases h
    · cases h
  all_goals first
    | (split at h
       · rename_i hu
         injection h with h
         subst h
         refine ⟨by cases op <;> simp [eqGuard, ren], ?_⟩
         rw [show (10000 : Nat) = 9999 + 1 from rfl]
         generalize (9999 : Nat) = d
         simp [Op.equalIn, run_und hu, ren]
         done
       · cases h)
    | cases h

theorem nilA_sound {ρ : Env} {w : World} {op : BinOp} {t : TypeId} {xo yo : Operand} {x y : AV} {r : Bool} (h : nilA P t x y = some r) (hc : (isConstO xo || isConstO yo) = true) :
    (eqGuard op t xo yo (ren ρ x) (ren ρ y)).run P w = .ok () w ∧ (Op.equal t (ren ρ x) (ren ρ y)).run P w = .ok r w := by
  unfold Op.equal Op.maxDepth
  rw [show (10000 : Nat) = 9999 + 1 from rfl]
  generalize (9999 : Nat) = d
  unfold nilA at h
  split at h
  · rename_i ms hu
    injection h with h
    subst h
    refine ⟨?_, by simp [Op.equalIn, run_und hu, ren]⟩
    cases op <;> simp only [eqGuard, ren] <;> simp
    all_goals (cases xo <;> cases yo <;> simp [isConstO] at hc ⊢)
  · rename_i ms _ _ hu
    injection h with h
    subst h
    exact ⟨by cases op <;> simp [eqGuard, ren], by simp [Op.equalIn, run_und hu, ren]⟩
  · rename_i ms _ _ hu
    injection h with h
    subst h
    exact ⟨by cases op <;> simp [eqGuard, ren], by simp [Op.equalIn, run_und hu, ren]⟩
  · cases h

/-- '==' and '!=' by Equal. -/
def ByEqual (x y : Value) : Prop := ∀ t, binOp .eql t x y = (do pure (.bool (← Op.equal t x y))) ∧ binOp .neq t x y = (do pure (.bool (!(← Op.equal t x y))))
theorem ByEqual.run {x y : Value} {t : TypeId} {r : Bool} {w : World} (h : ByEqual x y) (he : (Op.equal t x y).run P w = .ok r w) : (binOp .eql t x y).run P w = .ok (.bool r) w ∧ (binOp .neq t x y).run P w = .ok (.bool !r) w := by
  obtain ⟨h1, h2⟩ := h t
  rw [h1, h2]
  simp [he]
theorem eqA_by {ρ : Env} {op : BinOp} {t : TypeId} {x y : AV} {r : Bool} (h : eqA P op t x y = some r) : ByEqual (ren ρ x) (ren ρ y) := by
  unfold eqA at h
  split at h
  all_goals first
    | (intro t'; constructor <;> simp [binOp, ren]; done)
    | cases h
theorem nilA_by {ρ : Env} {t : TypeId} {x y : AV} {r : Bool} (h : nilA P t x y = some r) : ByEqual (ren ρ x) (ren ρ y) := by
  unfold nilA at h
  split at h
  all_goals first
    | (intro t'; constructor <;> simp [binOp, ren]; done)
    | cases h

theorem binA_sound {ρ : Env} {w : World} {op : BinOp} {t : TypeId} {xo yo : Operand} {x y v : AV} (h : binA P op t xo yo x y = some v) :
    (do eqGuard op t xo yo (ren ρ x) (ren ρ y); binOp op t (ren ρ x) (ren ρ y) : Sem Value).run P w = .ok (ren ρ v) w ∧ ∀ n, v.bd n := by
  have eqs : ∀ r, eqA P op t x y = some r → (op = .eql ∧ v = .bool r) ∨ (op = .neq ∧ v = .bool !r) → (do eqGuard op t xo yo (ren ρ x) (ren ρ y); binOp op t (ren ρ x) (ren ρ y) : Sem Value).run P w = .ok (ren ρ v) w ∧ ∀ n, v.bd n := by
    intro r he hv
    obtain ⟨e1, e2⟩ := eqA_sound (ρ := ρ) (w := w) (xo := xo) (yo := yo) he
    obtain ⟨e3, e4⟩ := (eqA_by (ρ := ρ) he).run e2
    rcases hv with ⟨rfl, rfl⟩ | ⟨rfl, rfl⟩
    · exact ⟨by simp only [Sem.run_bind, e1, Result.andThen_ok, e3, ren], fun n => by simp [AV.bd]⟩
    · exact ⟨by simp only [Sem.run_bind, e1, Result.andThen_ok, e4, ren], fun n => by simp [AV.bd]⟩
  have nils : ∀ r, nilA P t x y = some r → (isConstO xo || isConstO yo) = true → (op = .eql ∧ v = .bool r) ∨ (op = .neq ∧ v = .bool !r) → (do eqGuard op t xo yo (ren ρ x) (ren ρ y); binOp op t (ren ρ x) (ren ρ y) : Sem Value).run P w = .ok (ren ρ v) w ∧ ∀ n, v.bd n := by
    intro r he hc hv
    obtain ⟨e1, e2⟩ := nilA_sound (ρ := ρ) (w := w) (op := op) he hc
    obtain ⟨e3, e4⟩ := (nilA_by (ρ := ρ) he).run e2
    rcases hv with ⟨rfl, rfl⟩ | ⟨rfl, rfl⟩
    · exact ⟨by simp only [Sem.run_bind, e1, Result.andThen_ok, e3, ren], fun n => by simp [AV.bd]⟩
    · exact ⟨by simp only [Sem.run_bind, e1, Result.andThen_ok, e4, ren], fun n => by simp [AV.bd]⟩
  unfold binA at h
  split at h
  · rename_i k a k' b
    have hg : (eqGuard op t xo yo (ren ρ (.int k a)) (ren ρ (.int k' b))).run P w = .ok () w := by cases op <;> simp [eqGuard, ren]
    simp only [Sem.run_bind, hg, Result.andThen_ok]
    simp only [ren]
    split at h
    · exact shiftA_sound h
    · exact shiftA_sound h
    · rename_i h1 h2
      split at h
      · rename_i hk
        subst hk
        exact intA_sound h (fun e => h1 e) (fun e => h2 e)
      · cases h
  · rename_i a b
    have hg : (eqGuard op t xo yo (ren ρ (.str a)) (ren ρ (.str b))).run P w = .ok () w := by cases op <;> simp [eqGuard, ren]
    simp only [Sem.run_bind, hg, Result.andThen_ok]
    simp only [ren]
    exact strA_sound h
  · split at h
    · split at h
      · rename_i hc
        split at h
        · rename_i b hb
          injection h with h
          exact nils b hb hc (.inl ⟨rfl, h.symm⟩)
        · cases he : eqA P .eql t x y with
          | none => simp [he] at h
          | some b => simp [he] at h; exact eqs b he (.inl ⟨rfl, h.symm⟩)
      · cases he : eqA P .eql t x y with
        | none => simp [he] at h
        | some b => simp [he] at h; exact eqs b he (.inl ⟨rfl, h.symm⟩)
    · split at h
      · rename_i hc
        split at h
        · rename_i b hb
          injection h with h
          exact nils b hb hc (.inr ⟨rfl, h.symm⟩)
        · cases he : eqA P .neq t x y with
          | none => simp [he] at h
          | some b => simp [he] at h; exact eqs b he (.inr ⟨rfl, h.symm⟩)
      · cases he : eqA P .neq t x y with
        | none => simp [he] at h
        | some b => simp [he] at h; exact eqs b he (.inr ⟨rfl, h.symm⟩)
    · cases h

theorem unA_sound {ρ : Env} {w : World} {op : UnOp} {x v : AV} (h : unA op x = some v) : (Op.unary op (ren ρ x)).run P w = .ok (ren ρ v) w ∧ ∀ n, v.bd n := by
  unfold unA at h
  split at h
  · injection h with h; subst h; simp [Op.unary, Op.intArith, ren, AV.bd]
  · simp only [intBitsA] at h; injection h with h; subst h; simp [Op.unary, Op.intBits, ren, AV.bd]
  · injection h with h; subst h; simp [Op.unary, ren, AV.bd]
  · cases h

/-! ### Places and parts -/
theorem live_some {ρ : Env} {H : Heap} {w : World} (h : HRel ρ H w) {id : Nat} (hl : H.live id = true) : ∃ a, ρ.addr id = some a := by
  unfold Heap.live at hl
  split at hl
  · rename_i hg
    obtain ⟨b, e, _⟩ := h.own id _ hg rfl
    exact ⟨_, e⟩
  · rename_i x l hg
    obtain ⟨a, e, _⟩ := h.ro id _ hg 0 x rfl
    exact ⟨a, e⟩
  · cases hl
theorem addA_some {ρ : Env} {H : Heap} {w : World} (h : HRel ρ H w) {x v : AV} {n : Nat} (hx : addA H x n = some v) : ∃ a, ren ρ x = .pointer (some a) ∧ ren ρ v = .pointer (some (a.add n)) ∧ ∀ k, x.bd k → v.bd k := by
  unfold addA at hx
  split at hx
  · rename_i id off
    split at hx
    · rename_i hl
      injection hx with hx
      subst hx
      obtain ⟨a, ha⟩ := live_some h hl
      exact ⟨a.add off, by simp [ren, ha], by simp [ren, ha, add_add], fun k hb => by simpa [AV.bd] using hb⟩
    · cases hx
  · rename_i g off
    injection hx with hx
    subst hx
    exact ⟨(⟨g, 0, none⟩ : Addr).add off, by simp [ren], by simp [ren, add_add], fun k hb => by simp [AV.bd]⟩
  · cases hx
theorem fieldAddrA_sound {ρ : Env} {H : Heap} {w w1 : World} (h : HRel ρ H w) {s : TypeId} {x v : AV} {i : Nat} (hb : x.bd H.next) (hx : fieldAddrA P s x i H = some v) :
    (Instr.fieldAt s (ren ρ x) i).run P w1 = .ok (ren ρ v) w1 ∧ v.bd H.next := by
  unfold fieldAddrA at hx
  split at hx
  · rename_i f hf
    split at hx
    · rename_i n hn
      split at hx
      · rename_i h0
        obtain ⟨a, e1, e2, e3⟩ := addA_some h hx
        unfold fieldA at hf
        split at hf
        · rename_i fs hu
          refine ⟨?_, e3 _ hb⟩
          have hz : n ≠ 0 := by omega
          simp [Instr.fieldAt, run_und hu, hf, e1, Instr.sureAddr, fieldPlace, run_siz hn, hz, e2]
        · cases hf
      · cases hx
    · cases hx
  · cases hx
theorem partA_sound {ρ : Env} {w : World} {t : TypeId} {cs : List AV} {off n : Nat} {v : AV} (hb : ∀ x ∈ cs, x.bd n) (h : partA P t cs off = some v) : (part t (cs.map (ren ρ)).toArray off).run P w = .ok (ren ρ v) w ∧ v.bd n := by
  unfold partA at h
  split at h
  · rename_i m ha hs
    split at h
    · injection h with h
      subst h
      refine ⟨by rw [part_agg ha hs]; simp [ren], ?_⟩
      simp only [AV.bd]
      exact fun x hx => hb x (List.mem_of_mem_drop (List.mem_of_mem_take hx))
    · cases h
  · rename_i m ha hs
    exact ⟨part_cell ha h, hb v (List.mem_of_getElem? h)⟩
  · cases h
theorem fieldValA_sound {ρ : Env} {w : World} {s : TypeId} {x v : AV} {i n : Nat} (hb : x.bd n) (h : fieldValA P s x i = some v) : (Instr.field s (ren ρ x) i).run P w = .ok (ren ρ v) w ∧ v.bd n := by
  unfold fieldValA at h
  split at h
  · rename_i f cs hf
    simp only [AV.bd] at hb
    obtain ⟨e1, e2⟩ := partA_sound (ρ := ρ) (w := w) hb h
    unfold fieldA at hf
    split at hf
    · rename_i fs hu
      refine ⟨?_, e2⟩
      simp only [Instr.field, Sem.run_bind, run_und hu, Result.andThen_ok, hf, ren, asAgg, Sem.run_pure, e1]
    · cases hf
  · cases h
theorem indexAddrA_sound {ρ : Env} {H : Heap} {w w1 : World} (h : HRel ρ H w) {t : TypeId} {x i v : AV} (hb : x.bd H.next) (hx : indexAddrA P t x i H = some v) :
    (Instr.indexAt t (ren ρ x) (ren ρ i)).run P w1 = .ok (ren ρ v) w1 ∧ v.bd H.next := by
  unfold indexAddrA at hx
  split at hx
  · rename_i len e k i hu
    split at hx
    · rename_i s hs
      split at hx
      · rename_i hi
        obtain ⟨a, e1, e2, e3⟩ := addA_some h hx
        refine ⟨?_, e3 _ hb⟩
        rw [e2]
        simp only [Instr.indexAt, ren, Sem.run_bind, asIntOf, Sem.run_pure, Result.andThen_ok, run_und hu, e1, Instr.sureAddr]
        simp [hi, run_siz hs]
      · cases hx
    · cases hx
  · rename_i e k i hu
    split at hx
    · rename_i s id off len c hs
      split at hx
      · rename_i cs hc
        split at hx
        · rename_i hi
          obtain ⟨h1, h2, h3, h4⟩ := hi
          injection hx with hx
          subst hx
          obtain ⟨_, f2, f3⟩ := h.cells hc
          have hlt : off < cs.length := by
            have : 0 < len * s := Nat.mul_pos (by omega) h3
            omega
          obtain ⟨a, g1, _⟩ := f3 off _ (List.getElem?_eq_getElem hlt)
          refine ⟨?_, by simpa [AV.bd] using f2⟩
          have hr : ∃ m, ren ρ (.sl id off len c) = .slice (some (a.add off)) len m := by cases c <;> simp [ren, g1]
          obtain ⟨m, hr⟩ := hr
          rw [hr]
          simp only [Instr.indexAt, ren, Sem.run_bind, asIntOf, Sem.run_pure, Result.andThen_ok, run_und hu]
          simp [h1, h2, run_siz hs, g1, add_add]
        · cases hx
      · cases hx
    · cases hx
  · cases hx
theorem indexA_sound {ρ : Env} {w : World} {t : TypeId} {x i v : AV} {n : Nat} (hb : x.bd n) (h : indexA P t x i = some v) : (Instr.index t (ren ρ x) (ren ρ i)).run P w = .ok (ren ρ v) w ∧ v.bd n := by
  unfold indexA at h
  split at h
  · rename_i len e cs k i hu
    simp only [AV.bd] at hb
    split at h
    · rename_i s hs
      split at h
      · rename_i hi
        obtain ⟨e1, e2⟩ := partA_sound (ρ := ρ) (w := w) hb h
        refine ⟨?_, e2⟩
        simp only [Instr.index, ren, Sem.run_bind, asIntOf, Sem.run_pure, Result.andThen_ok, run_und hu]
        simp [hi, run_siz hs, e1]
      · cases h
    · cases h
  · rename_i s k i hu
    split at h
    · rename_i hi
      cases hg : s.data.toList[i.toNat]? with
      | none => simp [hg] at h
      | some c =>
        simp [hg] at h
        subst h
        refine ⟨?_, by simp [AV.bd]⟩
        have hs : s[i.toNat]? = some c := by
          obtain ⟨hlt, he⟩ := List.getElem?_eq_some_iff.1 hg
          rw [Array.length_toList] at hlt
          have hlt' : i.toNat < s.size := hlt
          rw [getElem?_pos s i.toNat hlt']
          rw [Array.getElem_toList] at he
          exact congrArg some he
        simp only [Instr.index, ren, Sem.run_bind, asIntOf, Sem.run_pure, Result.andThen_ok, run_und hu, hi, if_true, hs]
    · cases h
  · cases h

end Go.Proofs.YtlcfkeigipkhlaaGreatDoorAbs
