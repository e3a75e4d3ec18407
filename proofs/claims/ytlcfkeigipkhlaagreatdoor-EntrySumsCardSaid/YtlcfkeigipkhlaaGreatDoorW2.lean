/- Slices that are read, rows that are written, maps: what the words of the printed code come to there. -/
import Derived.Test.YtlcfkeigipkhlaaGreatDoorW1
set_option linter.unusedVariables false
set_option linter.unusedSimpArgs false
set_option linter.defProp false
namespace Go.Proofs.YtlcfkeigipkhlaaGreatDoorAbs

/-! ### A slice that reads as a list of elements, each so many cells -/
def Rd (H : Heap) (v : AV) (s : Nat) (css : List (List AV)) : Prop :=
  (v = .nils ∧ css = []) ∨ (∃ id, v = .emp id ∧ css = []) ∨ ∃ id off c cs, v = .sl id off css.length c ∧ id < H.next ∧ H.cells id = some cs ∧ off + css.length * s ≤ cs.length ∧ ∀ k (hk : k < css.length), loadN cs (off + k * s) s = some css[k]
theorem Rd.nil {H : Heap} {s : Nat} : Rd H .nils s [] := .inl ⟨rfl, rfl⟩
theorem Heap.cells_eq {H H' : Heap} {id : Nat} (h : H'.get id = H.get id) : H'.cells id = H.cells id := by unfold Heap.cells; rw [h]
theorem Rd.mono {H H' : Heap} {v : AV} {s : Nat} {css : List (List AV)} (h : Rd H v s css) (g : Grown H H') : Rd H' v s css := by
  rcases h with h | h | ⟨id, off, c, cs, h1, h2, h3, h4, h5⟩
  · exact .inl h
  · exact .inr (.inl h)
  · exact .inr (.inr ⟨id, off, c, cs, h1, Nat.lt_of_lt_of_le h2 g.next, by rw [Heap.cells_eq (g.get id h2)]; exact h3, h4, h5⟩)
theorem Rd.cell {H : Heap} {v : AV} {s : Nat} {css : List (List AV)} (h : Rd H v s css) : v.cell = true := by
  rcases h with ⟨rfl, _⟩ | ⟨id, rfl, _⟩ | ⟨id, off, c, cs, rfl, _⟩ <;> rfl
theorem Rd.len {H : Heap} {v : AV} {s : Nat} {css : List (List AV)} (h : Rd H v s css) {f : AV → M} {H' : Heap} : lenSZ (some v) f H' = f (.int .i64 css.length) H' := by
  rw [lenS_s]
  rcases h with ⟨rfl, rfl⟩ | ⟨id, rfl, rfl⟩ | ⟨id, off, c, cs, rfl, _⟩ <;> rfl
theorem ofRow_cells {H H' : Heap} {id : Nat} {cs : List AV} {g : List AV → M} (h : H.cells id = some cs) (hn : 0 < cs.length) : ofRow (H.get id) g H' = g cs H' := by
  unfold Heap.cells at h
  split at h
  · rename_i e; injection h with h; subst h; rw [e]; rfl
  · rename_i e; injection h with h; subst h; rw [e]
    cases ‹List AV› with
    | nil => simp at hn
    | cons a l => rfl
  · cases h
/-- An element's place. -/
theorem Rd.at_ {H : Heap} {v : AV} {s : Nat} {css : List (List AV)} (h : Rd H v s css) (hs : 0 < s) {k : Nat} (hk : k < css.length) :
    ∃ id o cs, id < H.next ∧ H.cells id = some cs ∧ loadN cs o s = some css[k] ∧ 0 < cs.length ∧ (∀ f : AV → M, idxZ (some v) (some (.int .i64 (k : Int))) s f H = f (.ptr id o) H) := by
  rcases h with ⟨_, rfl⟩ | ⟨id, _, rfl⟩ | ⟨id, off, c, cs, rfl, h2, h3, h4, h5⟩
  · simp at hk
  · simp at hk
  · refine ⟨id, off + k * s, cs, h2, h3, h5 k hk, ?_, fun f => ?_⟩
    · have : 1 * 1 ≤ css.length * s := Nat.mul_le_mul (by omega) (by omega)
      omega
    · simp only [idxZ, bd, ofO, idxS, h3]
      have : (0 : Int) ≤ (k : Int) ∧ (k : Int) < (css.length : Int) ∧ 0 < s ∧ off + css.length * s ≤ cs.length := ⟨by omega, by omega, hs, h4⟩
      rw [if_pos this]
      simp [Res.bind]
theorem Rd.el {H : Heap} {v : AV} {s : Nat} {css : List (List AV)} (h : Rd H v s css) (hs : 0 < s) {k : Nat} (hk : k < css.length) :
    ∃ p : AV, p.cell = true ∧ (∀ f : AV → M, idxZ (some v) (some (.int .i64 (k : Int))) s f H = f p H) ∧ (∀ f : AV → M, ldK (nj p) s f H = f (.agg css[k]) H) := by
  obtain ⟨n, rfl⟩ : ∃ n, s = n + 1 := ⟨s - 1, by omega⟩
  obtain ⟨id, o, cs, h1, h2, h3, h4, h5⟩ := h.at_ (by omega) hk
  refine ⟨.ptr id o, rfl, h5, fun f => ?_⟩
  rw [nj_ptr, ldn_s, ofRow_cells h2 h4, h3, manO_s]
theorem Rd.el1 {H : Heap} {v : AV} {css : List (List AV)} (h : Rd H v 1 css) {k : Nat} (hk : k < css.length) {x : AV} (hx : css[k] = [x]) :
    ∃ p : AV, p.cell = true ∧ (∀ f : AV → M, idxZ (some v) (some (.int .i64 (k : Int))) 1 f H = f p H) ∧ (∀ f : AV → M, ld1K (nj p) f H = f x H) := by
  obtain ⟨id, o, cs, h1, h2, h3, h4, h5⟩ := h.at_ (by omega) hk
  refine ⟨.ptr id o, rfl, h5, fun f => ?_⟩
  rw [nj_ptr, ld1_s, ofRow_cells h2 h4]
  rw [hx, loadN_one] at h3
  cases hc : cs[o]? with
  | none => rw [hc] at h3; cases h3
  | some y =>
    rw [hc] at h3
    simp only at h3
    cases hy : y.cell with
    | false => rw [hy] at h3; cases h3
    | true =>
      rw [hy] at h3
      simp only [Option.some.injEq, List.cons.injEq, and_true] at h3
      subst h3
      rw [oneO_s hy]

theorem idxY_s {id o n s : Nat} {i : Int} {k : IntKind} {f : AV → M} {H : Heap} (h : 0 ≤ i ∧ i < n) : idxY (some (.ptr id o)) (some (.int k i)) n s f H = ofRow (H.get id) (fun _ => f (.ptr id (o + i.toNat * s))) H := by
  generalize hg : H.get id = g
  cases g with
  | none => simp [idxY, bd, idxR, addA, Heap.live, ofO, Res.bind, hg, ofRow, h]
  | some a => cases a with
    | ro l => cases l <;> simp [idxY, bd, idxR, addA, Heap.live, ofO, Res.bind, hg, ofRow, h]
    | _ => simp [idxY, bd, idxR, addA, Heap.live, ofO, Res.bind, hg, ofRow, h]

/-! ### Rows of elements, flat -/
def flat (css : List (List AV)) : List AV := css.flatten
theorem flat_len {s : Nat} : ∀ {css : List (List AV)}, (∀ c ∈ css, c.length = s) → (flat css).length = css.length * s
  | [], _ => by simp [flat]
  | c :: css, h => by
    have ih := flat_len (css := css) fun d hd => h d (by simp [hd])
    simp only [flat] at ih ⊢
    simp [ih, h c (by simp), Nat.succ_mul, Nat.add_comm]
theorem flat_drop {s : Nat} : ∀ {css : List (List AV)} (k : Nat), (∀ c ∈ css, c.length = s) → (flat css).drop (k * s) = flat (css.drop k)
  | css, 0, _ => by simp
  | [], k + 1, _ => by simp [flat]
  | c :: css, k + 1, h => by
    have ih := flat_drop (css := css) k fun d hd => h d (by simp [hd])
    simp only [flat, List.flatten_cons, List.drop_succ_cons] at ih ⊢
    rw [show (k + 1) * s = c.length + k * s by rw [h c (by simp), Nat.succ_mul]; omega, List.drop_append, ← ih]
    simp
theorem flat_load {s : Nat} {css : List (List AV)} (h : ∀ c ∈ css, c.length = s ∧ c.all AV.cell = true) {k : Nat} (hk : k < css.length) : loadN (flat css) (k * s) s = some css[k] := by
  have hl := flat_len fun c hc => (h c hc).1
  have hd := flat_drop k fun c hc => (h c hc).1
  have hc := h css[k] (List.getElem_mem hk)
  have ht : ((flat css).drop (k * s)).take s = css[k] := by
    rw [hd, List.drop_eq_getElem_cons hk]
    simp only [flat, List.flatten_cons]
    rw [List.take_append_of_le_length (by omega), List.take_of_length_le (by omega)]
  unfold loadN
  rw [ht, if_pos ⟨by rw [hl]; have := Nat.mul_le_mul_right s (show k + 1 ≤ css.length by omega); rw [Nat.succ_mul] at this; omega, hc.2⟩]
theorem flat_all {css : List (List AV)} (h : ∀ c ∈ css, c.all AV.cell = true) : (flat css).all AV.cell = true := by
  simp only [flat, List.all_flatten]
  exact List.all_eq_true.2 h
/-- A slice over a row of its own. -/
theorem Rd.row {H : Heap} {id s n : Nat} {c : ACap} {u : Fill} {e : TypeId} {css : List (List AV)} (hid : id < H.next) (hg : H.get id = some (.row (flat css) u e)) (h : ∀ c ∈ css, c.length = s ∧ c.all AV.cell = true) (hn : n = css.length) : Rd H (.sl id 0 n c) s css := by
  subst hn
  refine .inr (.inr ⟨id, 0, c, flat css, rfl, hid, by simp only [Heap.cells, hg], by rw [flat_len fun c hc => (h c hc).1]; omega, fun k hk => ?_⟩)
  rw [Nat.zero_add]
  exact flat_load h hk
theorem flat_get {s : Nat} : ∀ {css : List (List AV)} {k j : Nat} (h : ∀ c ∈ css, c.length = s) (hk : k < css.length) (hj : j < s), (flat css)[k * s + j]? = css[k][j]?
  | [], k, j, _, hk, _ => by simp at hk
  | c :: css, 0, j, h, hk, hj => by
    have hc := h c (by simp)
    simp only [flat, List.flatten_cons, Nat.zero_mul, Nat.zero_add, List.getElem_cons_zero]
    rw [List.getElem?_append_left (by omega)]
  | c :: css, k + 1, j, h, hk, hj => by
    have hc := h c (by simp)
    have ih := flat_get (css := css) (k := k) (j := j) (fun d hd => h d (by simp [hd])) (by simpa using hk) hj
    simp only [flat, List.flatten_cons, List.getElem_cons_succ] at ih ⊢
    rw [List.getElem?_append_right (by rw [Nat.succ_mul]; omega), ← ih]
    congr 1
    rw [Nat.succ_mul]; omega
theorem flat_set {s : Nat} {x : AV} : ∀ {css : List (List AV)} {k j : Nat} (h : ∀ c ∈ css, c.length = s) (hk : k < css.length) (hj : j < s), (flat css).set (k * s + j) x = flat (css.set k (css[k].set j x))
  | [], k, j, _, hk, _ => by simp at hk
  | c :: css, 0, j, h, hk, hj => by
    have hc := h c (by simp)
    simp only [flat, List.flatten_cons, Nat.zero_mul, Nat.zero_add, List.set_cons_zero, List.getElem_cons_zero]
    rw [List.set_append_left _ _ (by omega)]
  | c :: css, k + 1, j, h, hk, hj => by
    have hc := h c (by simp)
    have ih := flat_set (x := x) (css := css) (k := k) (j := j) (fun d hd => h d (by simp [hd])) (by simpa using hk) hj
    simp only [flat, List.flatten_cons, List.set_cons_succ, List.getElem_cons_succ] at ih ⊢
    rw [List.set_append_right _ _ (by rw [Nat.succ_mul]; omega), ← ih]
    congr 2
    rw [Nat.succ_mul]; omega
theorem splice_one {cs : List AV} {o : Nat} {v : AV} (h : o < cs.length) : splice cs o [v] = cs.set o v := by
  unfold splice
  rw [List.set_eq_take_append_cons_drop, if_pos h]
  simp
theorem Rd.all {H : Heap} {v : AV} {s : Nat} {css : List (List AV)} (h : Rd H v s css) : ∀ c ∈ css, c.length = s ∧ c.all AV.cell = true := by
  rcases h with ⟨_, rfl⟩ | ⟨id, _, rfl⟩ | ⟨id, off, c, cs, _, _, _, _, h5⟩
  · simp
  · simp
  · intro d hd
    obtain ⟨k, hk, rfl⟩ := List.mem_iff_getElem.1 hd
    have := h5 k hk
    unfold loadN at this
    split at this
    · rename_i hh
      injection this with this
      rw [← this]
      exact ⟨by rw [List.length_take, List.length_drop]; omega, hh.2⟩
    · cases this

/-! ### Is a slice nil? -/
def isNil : AV → Bool
  | .nils => true
  | _ => false
theorem Rd.isnil {P : Program} {H : Heap} {v : AV} {s : Nat} {css : List (List AV)} (h : Rd H v s css) {t e : TypeId} (ht : P.underlying t = some (.slice e)) {xo yo : Operand} {f : AV → M} : binK (some v) (some .nils) P .eql t xo yo f H = f (.bool (isNil v)) H := by
  unfold binK bd
  rcases h with ⟨rfl, _⟩ | ⟨id, rfl, _⟩ | ⟨id, off, c, cs, rfl, _, h3, _⟩
  · simp only [ofO, vsNilA, nonNil, bothNil, ht, Bool.false_eq_true, if_false, binA, nilA, eqA]
    cases isConstO xo || isConstO yo <;> rfl
  · simp only [ofO, vsNilA, nonNil, ht, if_true]; rfl
  · have hh : H.has id = true := by
      unfold Heap.cells at h3
      unfold Heap.has
      split at h3
      · rename_i e; rw [e]
      · rename_i e; rw [e]
      · cases h3
    simp only [ofO, vsNilA, nonNil, ht, hh, if_true]; rfl

/-! ### A slice that is being built -/
def Own (lo : Nat) (H : Heap) (v : AV) (s : Nat) (e : TypeId) (css : List (List AV)) : Prop :=
  (∀ c ∈ css, c.length = s ∧ c.all AV.cell = true) ∧
  ((v = .nils ∧ css = []) ∨
   (∃ id u, v = .sl id 0 0 (.exact 0) ∧ css = [] ∧ lo ≤ id ∧ id < H.next ∧ H.get id = some (.row [] u e)) ∨
   (∃ id, v = .sl id 0 css.length (.tail s) ∧ lo ≤ id ∧ id < H.next ∧ H.get id = some (.row (flat css) .no e)))
theorem Own.nil {lo : Nat} {H : Heap} {s : Nat} {e : TypeId} : Own lo H .nils s e [] := ⟨by simp, .inl ⟨rfl, rfl⟩⟩
theorem Own.cell {lo : Nat} {H : Heap} {v : AV} {s : Nat} {e : TypeId} {css : List (List AV)} (h : Own lo H v s e css) : v.cell = true := by
  rcases h.2 with ⟨rfl, _⟩ | ⟨id, u, rfl, _⟩ | ⟨id, rfl, _⟩ <;> rfl
theorem Own.rd {lo : Nat} {H : Heap} {v : AV} {s : Nat} {e : TypeId} {css : List (List AV)} (h : Own lo H v s e css) : Rd H v s css := by
  obtain ⟨hc, ⟨rfl, rfl⟩ | ⟨id, u, rfl, rfl, h1, h2, h3⟩ | ⟨id, rfl, h1, h2, h3⟩⟩ := h
  · exact .nil
  · exact Rd.row (css := []) h2 h3 (by simp) rfl
  · exact Rd.row h2 h3 hc rfl
/-- It stays so where its own row stays. -/
theorem Own.mono {lo : Nat} {H H' : Heap} {v : AV} {s : Nat} {e : TypeId} {css : List (List AV)} (h : Own lo H v s e css) (g : Grown H H') : Own lo H' v s e css := by
  obtain ⟨hc, ⟨rfl, rfl⟩ | ⟨id, u, rfl, rfl, h1, h2, h3⟩ | ⟨id, rfl, h1, h2, h3⟩⟩ := h
  · exact .nil
  · exact ⟨hc, .inr (.inl ⟨id, u, rfl, rfl, h1, Nat.lt_of_lt_of_le h2 g.next, by rw [g.get id h2]; exact h3⟩)⟩
  · exact ⟨hc, .inr (.inr ⟨id, rfl, h1, Nat.lt_of_lt_of_le h2 g.next, by rw [g.get id h2]; exact h3⟩)⟩
/-- Everything ahead of 'lo' is as it was, and what lies behind, but for the slice's own row. -/
structure Kept (lo : Nat) (v : AV) (H H' : Heap) : Prop where
  next : H.next ≤ H'.next
  gl : H'.gl = H.gl
  get : ∀ i, i < lo → H'.get i = H.get i
  far : ∀ i, i < H.next → (∀ o n c, v ≠ .sl i o n c) → H'.get i = H.get i
theorem Kept.grown {lo : Nat} {v : AV} {H0 H H' : Heap} (k : Kept lo v H H') (g : Grown H0 H) (hl : H0.next ≤ lo) : Grown H0 H' :=
  ⟨Nat.le_trans g.next k.next, k.gl.trans g.gl, fun i hi => (k.get i (by omega)).trans (g.get i hi)⟩
theorem flat_append (a b : List (List AV)) : flat (a ++ b) = flat a ++ flat b := by simp [flat]
theorem Own.app {lo : Nat} {H : Heap} {v : AV} {s : Nat} {e : TypeId} {css : List (List AV)} (h : Own lo H v s e css) {z : List AV} {b : Nat} {y : AV} {ds : List (List AV)} (hz : z.length = s) (hs : 0 < s)
    (hy1 : lenA y = some ds.length) (hy2 : firstA s ds.length y H = some (flat ds)) (hds : ∀ c ∈ ds, c.length = s ∧ c.all AV.cell = true) (hne : 0 < ds.length) (hb : 0 < b) (hbb : (css.length + ds.length) * b ≤ 70368744177664) (hlo : lo ≤ H.next) :
    ∃ v' H', (∀ f, appC e s z b v y f H = f v' H') ∧ Own lo H' v' s e (css ++ ds) ∧ Kept lo v H H' := by
  subst hz
  have hc := h.1
  have hlen : css.length + ds.length ≤ 70368744177664 := Nat.le_trans (Nat.le_mul_of_pos_right _ hb) hbb
  have hfl := flat_len fun c hc => (hds c hc).1
  have hfa : (flat ds).all AV.cell = true := flat_all fun c hc => (hds c hc).2
  have hcond : (flat ds).length = ds.length * z.length ∧ (flat ds).all AV.cell = true := ⟨hfl, hfa⟩
  have hall : ∀ c ∈ css ++ ds, c.length = z.length ∧ c.all AV.cell = true := by
    intro c hm
    rcases List.mem_append.1 hm with hm | hm
    · exact hc c hm
    · exact hds c hm
  rcases h.2 with ⟨rfl, rfl⟩ | ⟨id, u, rfl, rfl, h1, h2, h3⟩ | ⟨id, rfl, h1, h2, h3⟩
  · refine ⟨.sl H.next 0 ds.length (.tail z.length), H.alloc (.row (flat ds) .no e), fun f => ?_, ⟨hall, .inr (.inr ⟨H.next, by simp, hlo, by simp, by simp [get_alloc_eq]⟩)⟩, ⟨by simp, rfl, fun i hi => get_alloc_ne (by omega), fun i hi _ => get_alloc_ne (by omega)⟩⟩
    simp only [List.length_nil, Nat.zero_add] at hbb hlen
    simp only [appC, hy1, hy2, appA, if_pos hcond, normCap, if_neg (show ds.length ≠ 0 by omega), if_pos (show 0 < b ∧ ds.length * b ≤ 70368744177664 ∧ ds.length ≤ 70368744177664 from ⟨hb, hbb, hlen⟩)]
  · refine ⟨.sl H.next 0 ds.length (.tail z.length), H.alloc (.row (flat ds) .no e), fun f => ?_, ⟨hall, .inr (.inr ⟨H.next, by simp, hlo, by simp, by simp [get_alloc_eq]⟩)⟩, ⟨by simp, rfl, fun i hi => get_alloc_ne (by omega), fun i hi _ => get_alloc_ne (by omega)⟩⟩
    simp only [List.length_nil, Nat.zero_add] at hbb hlen
    simp only [appC, hy1, hy2, appA, if_pos hcond, normCap, Nat.zero_add, if_neg (show ¬ds.length ≤ 0 by omega), if_pos (show 0 < b ∧ ds.length * b ≤ 70368744177664 ∧ ds.length ≤ 70368744177664 from ⟨hb, hbb, hlen⟩), if_true, Option.map_some, List.nil_append]
  · have hfc := flat_len fun c hm => (hc c hm).1
    have hca : (flat css).all AV.cell = true := flat_all fun c hm => (hc c hm).2
    refine ⟨.sl H.next 0 (css.length + ds.length) (.tail z.length), (H.set id none).alloc (.row (flat css ++ flat ds) .no e), fun f => ?_, ⟨hall, .inr (.inr ⟨H.next, by simp, hlo, by simp, ?_⟩)⟩, ⟨by simp, rfl, fun i hi => ?_, fun i hi hn => ?_⟩⟩
    · have hnorm : normCap H (.sl id 0 css.length (.tail z.length)) = .sl id 0 css.length (.tail z.length) := by simp only [normCap, h3]
      simp only [appC, hy1, hy2, appA, if_pos hcond, hnorm, if_true, h3]
      rw [if_pos ⟨trivial, trivial, by rw [hfc]; exact Nat.le_refl _, hb, hbb, hlen⟩, if_neg (by omega), if_pos ⟨hfc, hca⟩]
    · rw [get_alloc_eq (by simp), flat_append]
    · rw [get_alloc_ne (by simp; omega), get_set_ne (by omega)]
    · rw [get_alloc_ne (by simp; omega), get_set_ne (fun hi => hn 0 css.length (.tail z.length) (by rw [hi]))]
/-- Nothing more. -/
theorem Own.app0 {lo : Nat} {H : Heap} {v : AV} {s : Nat} {e : TypeId} {css : List (List AV)} (h : Own lo H v s e css) {z : List AV} {b : Nat} {y : AV} (hz : z.length = s) (hs : 0 < s)
    (hy1 : lenA y = some 0) (hy2 : firstA s 0 y H = some []) (hb : 0 < b) (hbb : css.length * b ≤ 70368744177664) : ∀ f : AV → M, appC e s z b v y f H = f v H := by
  subst hz
  intro f
  have hlen : css.length ≤ 70368744177664 := Nat.le_trans (Nat.le_mul_of_pos_right _ hb) hbb
  have hcond : ([] : List AV).length = 0 * z.length ∧ ([] : List AV).all AV.cell = true := ⟨by simp, rfl⟩
  obtain ⟨hc, ⟨rfl, rfl⟩ | ⟨id, u, rfl, rfl, h1, h2, h3⟩ | ⟨id, rfl, h1, h2, h3⟩⟩ := h
  · simp only [appC, hy1, hy2, appA, if_pos hcond, normCap, if_true]
  · simp only [appC, hy1, hy2, appA, if_pos hcond, normCap, Nat.add_zero, Nat.le_refl, if_true]
  · have hfc := flat_len fun c hm => (hc c hm).1
    have hnorm : normCap H (.sl id 0 css.length (.tail z.length)) = .sl id 0 css.length (.tail z.length) := by simp only [normCap, h3]
    simp only [appC, hy1, hy2, appA, if_pos hcond, hnorm, if_true, h3, Nat.add_zero]
    rw [if_pos ⟨trivial, trivial, by rw [hfc]; exact Nat.le_refl _, hb, hbb, hlen⟩]
/-- A slice appended to one that is being built. -/
theorem Own.apps {lo : Nat} {H : Heap} {v : AV} {s : Nat} {e : TypeId} {css : List (List AV)} (h : Own lo H v s e css) {z : List AV} {b : Nat} {y : AV} {ds : List (List AV)} (hz : z.length = s) (hs : 0 < s)
    (hy1 : lenA y = some ds.length) (hy2 : firstA s ds.length y H = some (flat ds)) (hds : ∀ c ∈ ds, c.length = s ∧ c.all AV.cell = true) (hb : 0 < b) (hbb : (css.length + ds.length) * b ≤ 70368744177664) (hlo : lo ≤ H.next) :
    ∃ v' H', (∀ f, appC e s z b v y f H = f v' H') ∧ Own lo H' v' s e (css ++ ds) ∧ Kept lo v H H' := by
  cases ds with
  | nil => exact ⟨v, H, h.app0 hz hs hy1 hy2 hb (by simpa using hbb), by simpa using h, ⟨Nat.le_refl _, rfl, fun _ _ => rfl, fun _ _ _ => rfl⟩⟩
  | cons d ds => exact h.app hz hs hy1 hy2 hds (by simp) hb hbb hlo
/-- Where the new elements come of a slice that reads. -/
theorem Rd.first {H : Heap} {v : AV} {s : Nat} {css : List (List AV)} (h : Rd H v s css) : lenA v = some css.length ∧ firstA s css.length v H = some (flat css) := by
  rcases h with ⟨rfl, rfl⟩ | ⟨id, rfl, rfl⟩ | ⟨id, off, c, cs, rfl, h2, h3, h4, h5⟩
  · exact ⟨rfl, rfl⟩
  · exact ⟨rfl, rfl⟩
  · refine ⟨rfl, ?_⟩
    simp only [firstA, h3]
    have key : ∀ m, m ≤ css.length → loadN cs off (m * s) = some (flat (css.take m)) := by
      intro m
      induction m with
      | zero => intro _; rw [Nat.zero_mul]; unfold loadN; rw [if_pos ⟨by omega, by simp⟩]; simp [flat]
      | succ m ih =>
        intro hm
        have e1 := ih (by omega)
        have e2 := h5 m (by omega)
        unfold loadN at e1 e2 ⊢
        split at e1
        · rename_i c1
          split at e2
          · rename_i c2
            injection e1 with e1
            injection e2 with e2
            have hsplit : (cs.drop off).take ((m + 1) * s) = (cs.drop off).take (m * s) ++ (cs.drop (off + m * s)).take s := by
              rw [Nat.succ_mul, List.take_add, List.drop_drop]
            have hle : off + (m + 1) * s ≤ cs.length := by rw [Nat.succ_mul]; omega
            rw [if_pos ⟨hle, by rw [hsplit, List.all_append, c1.2, c2.2]; rfl⟩, hsplit, e1, e2]
            rw [show css.take (m + 1) = css.take m ++ [css[m]] by rw [List.take_succ_eq_append_getElem (by omega)], flat_append]
            simp [flat]
          · cases e2
        · cases e1
    have := key css.length (Nat.le_refl _)
    rwa [List.take_length] at this

/-- An element of a slice over a known row. -/
theorem idxZ_s {id off n s : Nat} {i : Int} {c : ACap} {k : IntKind} {f : AV → M} {H : Heap} (hs : 0 < s) (hi : 0 ≤ i ∧ i < n) : idxZ (some (.sl id off n c)) (some (.int k i)) s f H = ofRow (H.get id) (fun cs => okO (decide (off + n * s ≤ cs.length)) (f (.ptr id (off + i.toNat * s)))) H := by
  have hn : 0 < n * s := Nat.mul_pos (by omega) hs
  simp only [idxZ, bd, ofO, idxS, Heap.cells]
  cases H.get id with
  | none => simp [Res.bind, ofRow]
  | some a => cases a with
    | row cs u e =>
      by_cases h : off + n * s ≤ cs.length
      · simp [Res.bind, ofRow, hi, hs, h, okO]
      · simp [Res.bind, ofRow, hi, hs, h, okO]
    | ro cs =>
      cases cs with
      | nil =>
        have : ¬(off + n * s ≤ 0) := by omega
        simp [Res.bind, ofRow, hi, hs]
        rw [if_neg (by omega)]
        rfl
      | cons b cs =>
        by_cases h : off + n * s ≤ (b :: cs).length
        · simp only [List.length_cons] at h
          simp [Res.bind, ofRow, hi, hs, h, okO]
        · simp only [List.length_cons] at h
          simp [Res.bind, ofRow, hi, hs, h, okO]
    | _ => simp [Res.bind, ofRow]
/-- Where its row is, if it bears something. -/
theorem Own.at_ {lo : Nat} {H : Heap} {v : AV} {s : Nat} {e : TypeId} {css : List (List AV)} (h : Own lo H v s e css) (hn : 0 < css.length) : ∃ id, v = .sl id 0 css.length (.tail s) ∧ lo ≤ id ∧ id < H.next ∧ H.get id = some (.row (flat css) .no e) := by
  rcases h.2 with ⟨_, rfl⟩ | ⟨id, u, _, rfl, _⟩ | h
  · simp at hn
  · simp at hn
  · exact h
theorem Own.mk_ {lo : Nat} {H : Heap} {s : Nat} {e : TypeId} {css : List (List AV)} {id : Nat} (hc : ∀ c ∈ css, c.length = s ∧ c.all AV.cell = true) (h1 : lo ≤ id) (h2 : id < H.next) (h3 : H.get id = some (.row (flat css) .no e)) : Own lo H (.sl id 0 css.length (.tail s)) s e css :=
  ⟨hc, .inr (.inr ⟨id, rfl, h1, h2, h3⟩)⟩

/-! ### Maps with plain keys -/
/-- What stands in an option: on. -/
def ofV (x : Option AV) (f : AV → M) : M := match x with
  | some v => f v
  | none => fun _ => .fail
def ofH (x : Option Heap) (f : AV → M) : M := match x with
  | some H' => fun _ => f undefA H'
  | none => fun _ => .fail
section
variable {P : Program} {f : AV → M} {H : Heap} {v x k w : AV} {t : TypeId} {ok : Bool} {K : M} {Q : AV × Heap → Prop}
theorem ofV_s : ofV (some v) f H = f v H := rfl
theorem ofH_s {H' : Heap} : ofH (some H') f H = f undefA H' := rfl
theorem lok_s : lokK (some x) (some k) P t ok f H = ofV (lookupA P t x k ok H) f H := by
  simp only [lokK, bd, ofO]
  cases lookupA P t x k ok H <;> rfl
theorem upd_s : updK (some x) (some k) (some w) P t f H = ofH (mapUpdateA P t x k w H) f H := by
  simp only [updK, bd, ofO]
  cases mapUpdateA P t x k w H <;> rfl
theorem ndl_all : (ndlK (some x) P (some true) t v K H).all Q ↔ loadA P t x H = some v ∧ (K H).all Q := Iff.rfl
theorem ndm_all : (ndmK (some x) (some k) P (some true) t ok v K H).all Q ↔ lookupA P t x k ok H = some v ∧ (K H).all Q := Iff.rfl
theorem ndl_no {o : Option AV} : (ndlK o P (some false) t v K H) = K H := rfl
def oneV (x : Option AV) : Option AV := match x with
  | some v => if v.cell = true then some v else none
  | none => none
theorem oneV_s (h : v.cell = true) : oneV (some v) = some v := by simp only [oneV, h, if_true]
theorem ld1_o {id o : Nat} : ld1 (.ptr id o) H = ofRowO (H.get id) fun cs => oneV cs[o]? := by
  simp only [ld1, Heap.at_, Heap.cells]
  cases H.get id with
  | none => rfl
  | some a => cases a with
    | ro cs =>
      simp only [loadN_one, Nat.lt_add_one, if_true]
      cases cs with
      | nil => simp [ofRowO]
      | cons b cs =>
        simp only [ofRowO, oneV]
        cases (b :: cs)[o]? with
        | none => simp
        | some v => cases hv : v.cell <;> simp [hv]
    | row cs _ _ =>
      simp only [loadN_one, Nat.lt_add_one, if_true, ofRowO, oneV]
      cases cs[o]? with
      | none => simp
      | some v => cases hv : v.cell <;> simp [hv]
    | _ => rfl
end
/-- A map of whole numbers' keys. -/
def esK {α : Type} (kd : IntKind) (enc : α → AV) (m : List (Int × α)) : List (AV × AV) := m.map fun p => (.int kd p.1, enc p.2)
def gt {α : Type} (m : List (Int × α)) (k : Int) : Option α := match m with
  | [] => none
  | (a, v) :: l => if a = k then some v else gt l k
def put {α : Type} (m : List (Int × α)) (k : Int) (v : α) : List (Int × α) := match m with
  | [] => [(k, v)]
  | (a, u) :: l => if a = k then (k, v) :: l else (a, u) :: put l k v
theorem find_es {α : Type} {kd : IntKind} {enc : α → AV} {k : Int} : ∀ m : List (Int × α), findA .i (.int kd k) (esK kd enc m) = some ((gt m k).map enc)
  | [] => rfl
  | (a, v) :: l => by
    simp only [esK, List.map_cons, findA, eqPlain, if_true, gt]
    by_cases h : a = k
    · subst h; simp
    · have : (k == a) = false := by simp; omega
      rw [this, if_neg h]
      exact find_es l
theorem upd_es {α : Type} {kd : IntKind} {enc : α → AV} {k : Int} {v : α} : ∀ m : List (Int × α), updA .i (.int kd k) (enc v) (esK kd enc m) = some (esK kd enc (put m k v))
  | [] => rfl
  | (a, u) :: l => by
    simp only [esK, List.map_cons, updA, eqPlain, if_true, put]
    by_cases h : a = k
    · subst h; simp
    · have : (k == a) = false := by simp; omega
      rw [this, if_neg h]
      have := upd_es (kd := kd) (enc := enc) (k := k) (v := v) l
      simp only [esK] at this
      simp only [this, Option.map_some, List.map_cons]
theorem lok_es {α : Type} {kd : IntKind} {enc : α → AV} {k : Int} {m : List (Int × α)} {z : AV} {id : Nat} {H : Heap} (h : H.get id = some (.map (esK kd enc m))) : lokA .i z (.mp (some id)) (.int kd k) false H = some (((gt m k).map enc).getD z) := by
  simp only [lokA, entriesA, h, find_es]
  cases gt m k <;> rfl
theorem lok_es' {α : Type} {kd : IntKind} {enc : α → AV} {k : Int} {m : List (Int × α)} {d : α} {id : Nat} {H : Heap} (h : H.get id = some (.map (esK kd enc m))) : lokA .i (enc d) (.mp (some id)) (.int kd k) false H = some (enc ((gt m k).getD d)) := by
  rw [lok_es h]
  cases gt m k <;> rfl
theorem updM_es {α : Type} {kd : IntKind} {enc : α → AV} {k : Int} {v : α} {m : List (Int × α)} {id : Nat} {H : Heap} (h : H.get id = some (.map (esK kd enc m))) : updM .i (.mp (some id)) (.int kd k) (enc v) H = some (H.set id (some (.map (esK kd enc (put m k v))))) := by
  simp only [updM, h, upd_es]
def ofMpV (o : Option AObj) (g : List (AV × AV) → Option AV) : Option AV := match o with
  | some (.map es) => g es
  | some (.rom es) => g es
  | _ => none
def ofMpH (o : Option AObj) (g : List (AV × AV) → Option Heap) : Option Heap := match o with
  | some (.map es) => g es
  | _ => none
def lkV (kd : PK) (z k : AV) (ok : Bool) (es : List (AV × AV)) : Option AV := match findA kd k es with
      | some (some v) => some (if ok then .tup [v, .bool true] else v)
      | some none => some (if ok then .tup [z, .bool false] else z)
      | none => none
theorem ofMpV_map {es : List (AV × AV)} {g : List (AV × AV) → Option AV} : ofMpV (some (.map es)) g = g es := rfl
theorem ofMpH_map {es : List (AV × AV)} {g : List (AV × AV) → Option Heap} : ofMpH (some (.map es)) g = g es := rfl
theorem lokA_s {kd : PK} {z k : AV} {ok : Bool} {id : Nat} {H : Heap} : lokA kd z (.mp (some id)) k ok H = ofMpV (H.get id) fun es => lkV kd z k ok es := by
  simp only [lokA, entriesA]
  cases H.get id with
  | none => rfl
  | some o => cases o <;> rfl
theorem updM_s {kd : PK} {k v : AV} {id : Nat} {H : Heap} : updM kd (.mp (some id)) k v H = ofMpH (H.get id) fun es => (updA kd k v es).map fun es' => H.set id (some (.map es')) := by
  simp only [updM]
  cases H.get id with
  | none => rfl
  | some o =>
    cases o with
    | map es => simp only [ofMpH]; cases updA kd k v es <;> rfl
    | _ => rfl
theorem lkV_es {α : Type} {kd : IntKind} {enc : α → AV} {k : Int} {m : List (Int × α)} {z : AV} : lkV .i z (.int kd k) false (esK kd enc m) = some (((gt m k).map enc).getD z) := by
  simp only [lkV, find_es]
  cases gt m k <;> rfl
theorem om_h {es : List (AV × AV)} {g : List (AV × AV) → Heap} : Option.map g (some es) = some (g es) := rfl
def wm := And.intro @ofMpV_map <| And.intro @ofMpH_map <| And.intro @lokA_s <| And.intro @updM_s <| And.intro @om_h <| And.intro @lok_s <| And.intro @upd_s <| And.intro @ofV_s <| And.intro @ofH_s <| And.intro @ndl_all <| And.intro @ndm_all <| And.intro @ndl_no <| And.intro @ld1_o @oneV_s

/-! ### Going through a map -/
section
variable {f : AV → M} {H : Heap} {Q : AV × Heap → Prop} {id m n : Nat} {left : List Nat} {at_ : Nat} {es : List (AV × AV)}
theorem rng_s {id : Nat} : rngZ (some (.mp (some id))) f H = ofMp (H.get id) (fun es H => f (.ptr H.next 0) (H.alloc (.mit (some id) es.length (List.range es.length) es.length))) H := by
  simp only [rngZ, bd, ofO, rngM]
  cases H.get id with
  | none => rfl
  | some o => cases o <;> rfl
theorem nxt_end (h1 : H.get id = some (.mit (some m) n [] at_)) (h2 : H.get m = some (.map es)) (h3 : es.length = n) : nxtK (some (.ptr id 0)) false f H = f (.tup [.bool false]) H := by
  simp only [nxtK, bd, ofO, nextA, h1, h2, h3, if_true, Res.bind]
theorem nxt_more (h1 : H.get id = some (.mit (some m) n left at_)) (h2 : H.get m = some (.map es)) (h3 : es.length = n) (hne : left ≠ []) (hlt : ∀ j ∈ left, j < n)
    (hk : ∀ (i : Nat) (hi : i < left.length) (p : AV × AV), es[left[i]]? = some p → (f (.tup [.bool true, p.1, p.2]) (H.set id (some (.mit (some m) n (left.eraseIdx i) left[i])))).all Q) :
    (nxtK (some (.ptr id 0)) false f H).all Q := by
  obtain ⟨a, l, rfl⟩ : ∃ a l, left = a :: l := by cases left with
    | nil => exact absurd rfl hne
    | cons a l => exact ⟨a, l, rfl⟩
  simp only [nxtK, bd, ofO, nextA, h1, h2, h3, if_true, Res.bind]
  intro i hi
  have hj := hlt _ (List.getElem_mem hi)
  have hp : es[(a :: l)[i]]? = some (es[(a :: l)[i]]'(by omega)) := List.getElem?_eq_getElem _
  have := hk i hi _ hp
  simp only [List.getElem?_eq_getElem hi, hp]
  exact this
theorem ent_s (h1 : H.get id = some (.mit (some m) n left at_)) (h2 : H.get m = some (.map es)) (h3 : es.length = n) {p : AV × AV} (h4 : es[at_]? = some p) : entK (some (.ptr id 0)) f H = f (.tup [p.1, p.2]) H := by
  simp only [entK, bd, ofO, entryA, h1, h2, h3, if_true, h4, Res.bind]
end
theorem gt_get {α : Type} : ∀ {m : List (Int × α)} {j : Nat} (hn : (m.map (·.1)).Nodup) (hj : j < m.length), gt m m[j].1 = some m[j].2
  | [], j, _, hj => by simp at hj
  | (a, v) :: l, 0, _, _ => by simp [gt]
  | (a, v) :: l, j + 1, hn, hj => by
    simp only [List.map_cons, List.nodup_cons] at hn
    have hj' : j < l.length := by simpa using hj
    have : a ≠ l[j].1 := fun h => hn.1 (by rw [h]; exact List.mem_map.2 ⟨l[j], List.getElem_mem hj', rfl⟩)
    simp only [gt, List.getElem_cons_succ, if_neg this]
    exact gt_get hn.2 hj'
theorem put_keys {α : Type} {k : Int} {v : α} : ∀ {m : List (Int × α)}, ∀ x, x ∈ (put m k v).map (·.1) ↔ x = k ∨ x ∈ m.map (·.1)
  | [], x => by simp [put]
  | (a, u) :: l, x => by
    unfold put
    by_cases h : a = k
    · rw [if_pos h]; subst h; simp
    · rw [if_neg h]
      simp only [List.map_cons, List.mem_cons, put_keys (m := l) x]
      constructor
      · rintro (h | h | h)
        · exact .inr (.inl h)
        · exact .inl h
        · exact .inr (.inr h)
      · rintro (h | h | h)
        · exact .inr (.inl h)
        · exact .inl h
        · exact .inr (.inr h)
theorem put_nodup {α : Type} {k : Int} {v : α} : ∀ {m : List (Int × α)}, (m.map (·.1)).Nodup → ((put m k v).map (·.1)).Nodup
  | [], _ => by simp [put]
  | (a, u) :: l, h => by
    unfold put
    simp only [List.map_cons, List.nodup_cons] at h
    by_cases hk : a = k
    · rw [if_pos hk]; subst hk; simpa using h
    · rw [if_neg hk]
      simp only [List.map_cons, List.nodup_cons]
      refine ⟨fun hx => ?_, put_nodup h.2⟩
      rcases (put_keys a).1 hx with e | e
      · exact hk e
      · exact h.1 e
theorem esK_len {α : Type} {kd : IntKind} {enc : α → AV} {m : List (Int × α)} : (esK kd enc m).length = m.length := by simp [esK]
end Go.Proofs.YtlcfkeigipkhlaaGreatDoorAbs
