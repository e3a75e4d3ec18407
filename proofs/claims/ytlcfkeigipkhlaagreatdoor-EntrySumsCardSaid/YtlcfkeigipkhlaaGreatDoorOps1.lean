/- Single operations: what the abstract machine tells of them is what the model does. Memory, makers. -/
import Derived.Test.YtlcfkeigipkhlaaGreatDoorRel
set_option linter.unusedVariables false
set_option linter.unusedSimpArgs false
namespace Go.Proofs.YtlcfkeigipkhlaaGreatDoorAbs
open Go.RowKit
variable {P : Program}

/-! ### Types -/
theorem run_und {t : TypeId} {d : TypeDesc} {w : World} (h : P.underlying t = some d) : (underlying t).run P w = .ok d w := by simp [underlying, h]
theorem run_siz {t : TypeId} {n : Nat} {w : World} (h : sizA P t = some n) : (sizeOf t).run P w = .ok n w := by
  unfold sizA at h
  cases hi : P.info? t with
  | none => simp [hi] at h
  | some i => simp [hi] at h; simp [sizeOf, typeInfo, hi, h]
theorem run_bytes {t : TypeId} {n : Nat} {w : World} (h : bytA P t = some n) : ∃ i, (typeInfo t).run P w = .ok i w ∧ i.bytes = n := by
  unfold bytA at h
  cases hi : P.info? t with
  | none => simp [hi] at h
  | some i => simp [hi] at h; exact ⟨i, by simp [typeInfo, hi], h⟩
theorem run_agg {t : TypeId} {b : Bool} {w : World} (h : aggA P t = some b) : (isAgg t).run P w = .ok b w := by
  unfold aggA at h
  cases hi : P.underlying t with
  | none => simp [hi] at h
  | some d =>
    simp only [hi] at h
    cases d <;> simp_all [isAgg, run_und hi]

/-! ### Constants -/
theorem convS_ren {ρ : Env} {v : Value} {a : AV} (h : convS v = some a) : ren ρ a = v ∧ ∀ n, a.bd n := by
  unfold convS at h
  split at h <;> first | (injection h with h; subst h; exact ⟨by simp [ren], fun n => by simp [AV.bd]⟩) | cases h
theorem convL_ren {ρ : Env} : ∀ {l : List Value} {as : List AV}, convL l = some as → as.map (ren ρ) = l ∧ ∀ n, ∀ v ∈ as, v.bd n
  | [], as, h => by simp [convL] at h; subst h; simp
  | v :: l, as, h => by
    simp only [convL] at h
    split at h
    · rename_i a as' h1 h2
      injection h with h
      subst h
      obtain ⟨e1, e2⟩ := convS_ren (ρ := ρ) h1
      obtain ⟨e3, e4⟩ := convL_ren (ρ := ρ) h2
      refine ⟨by simp [e1, e3], fun n v hv => ?_⟩
      rcases List.mem_cons.1 hv with rfl | hv
      · exact e2 n
      · exact e4 n v hv
    · cases h
theorem conv_ren {ρ : Env} {v : Value} {a : AV} (h : conv v = some a) : ren ρ a = v ∧ ∀ n, a.bd n := by
  unfold conv at h
  split at h
  · rename_i cs
    cases hc : convL cs.toList with
    | none => simp [hc] at h
    | some as =>
      simp [hc] at h
      subst h
      obtain ⟨e1, e2⟩ := convL_ren (ρ := ρ) hc
      exact ⟨by simp [ren, e1], fun n => by simp only [AV.bd]; exact e2 n⟩
  · rename_i vs
    split at h
    · rename_i h0
      injection h with h
      subst h
      obtain rfl : vs = #[] := Array.eq_empty_of_size_eq_zero h0
      exact ⟨by simp [undefA, ren], fun n => by simp [undefA, AV.bd]⟩
    · cases h
  · exact convS_ren h
theorem run_zero {ρ : Env} {t : TypeId} {z : AV} {w : World} (h : zeroA P t = some z) : (zeroValue t).run P w = .ok (ren ρ z) w ∧ ∀ n, z.bd n := by
  unfold zeroA at h
  cases hi : P.info? t with
  | none => simp [hi] at h
  | some i =>
    simp only [hi, Option.bind_some] at h
    cases hz : i.zero with
    | none => simp [hz] at h
    | some v =>
      simp only [hz, Option.bind_some] at h
      obtain ⟨e1, e2⟩ := conv_ren (ρ := ρ) h
      exact ⟨by simp [zeroValue, typeInfo, hi, hz, e1], e2⟩

/-! ### Registers -/
structure RegRel (ρ : Env) (n : Nat) (regs : List AV) (tmps : Array Value) : Prop where
  size : regs.length = tmps.size
  at_ : ∀ (i : Nat) (v : AV), regs[i]? = some v → v = .junk ∨ (tmps[i]? = some (ren ρ v) ∧ v.bd n)
theorem RegRel.ext {ρ ρ' : Env} {n m : Nat} {regs : List AV} {tmps : Array Value} (h : RegRel ρ n regs tmps) (he : Ext n ρ ρ') (hm : n ≤ m) : RegRel ρ' m regs tmps :=
  ⟨h.size, fun i v hv => (h.at_ i v hv).imp id fun ⟨e1, e2⟩ => ⟨by rw [ren_ext he v e2]; exact e1, AV.bd_mono hm v e2⟩⟩
theorem RegRel.put {ρ : Env} {n : Nat} {regs : List AV} {a : Act} (h : RegRel ρ n regs a.tmps) (dst : Option Tmp) {v : AV} (hv : v = .junk ∨ v.bd n) : RegRel ρ n (putA regs dst v) (a.put dst (ren ρ v)).tmps := by
  cases dst with
  | none => exact h
  | some d =>
    refine ⟨by simp [putA, Act.put, h.size], fun i u hu => ?_⟩
    simp only [putA, List.getElem?_set] at hu
    simp only [Act.put, Array.getElem?_setIfInBounds]
    by_cases hd : d = i
    · subst hd
      rw [if_pos rfl] at hu ⊢
      rw [← h.size]
      split at hu
      · rename_i hlt
        injection hu with hu
        subst hu
        rcases hv with hv | hv
        · exact .inl hv
        · exact .inr ⟨by rw [if_pos hlt], hv⟩
      · cases hu
    · rw [if_neg hd] at hu ⊢
      exact h.at_ i u hu
theorem nj_some {v u : AV} (h : nj v = some u) : v = u ∧ u ≠ .junk := by
  cases v <;> first | (cases h; done) | (cases h; exact ⟨rfl, by simp⟩)
theorem evA_ren {ρ : Env} {n : Nat} {regs : List AV} {a : Act} (h : RegRel ρ n regs a.tmps) {x : Operand} {v : AV} (hx : evA regs x = some v) : a.eval x = ren ρ v ∧ v.bd n ∧ v ≠ .junk := by
  cases x with
  | tmp t =>
    simp only [evA] at hx
    split at hx
    · rename_i u hv
      obtain ⟨hx, hu⟩ := nj_some hx
      subst hx
      rcases h.at_ t u hv with e | ⟨e1, e2⟩
      · exact (hu e).elim
      · exact ⟨by simp [Act.eval, Array.getD_eq_getD_getElem?, e1], e2, hu⟩
    · cases hx
  | const c =>
    obtain ⟨e1, e2⟩ := conv_ren (ρ := ρ) hx
    refine ⟨by simp [Act.eval, e1], e2 n, ?_⟩
    rintro rfl
    simp only [evA, conv] at hx
    split at hx
    · rename_i cs
      cases hc : convL cs.toList <;> simp [hc] at hx
    · split at hx <;> simp [undefA] at hx
    · unfold convS at hx
      split at hx <;> simp at hx
  | global g =>
    simp only [evA] at hx
    injection hx with hx
    subst hx
    exact ⟨by simp [Act.eval, ren, add_base], by simp [AV.bd], by simp⟩
  | func f =>
    simp only [evA] at hx
    injection hx with hx
    subst hx
    exact ⟨by simp [Act.eval, ren], by simp [AV.bd], by simp⟩
theorem evL_ren {ρ : Env} {n : Nat} {regs : List AV} {a : Act} (h : RegRel ρ n regs a.tmps) : ∀ {l : List Operand} {vs : List AV}, evL regs l = some vs → l.map a.eval = vs.map (ren ρ) ∧ ∀ v ∈ vs, v.bd n
  | [], vs, e => by simp [evL] at e; subst e; simp
  | x :: l, vs, e => by
    simp only [evL] at e
    split at e
    · rename_i v vs' h1 h2
      injection e with e
      subst e
      obtain ⟨e1, e2, _⟩ := evA_ren h h1
      obtain ⟨e3, e4⟩ := evL_ren h h2
      refine ⟨by simp [e1, e3], fun u hu => ?_⟩
      rcases List.mem_cons.1 hu with rfl | hu
      · exact e2
      · exact e4 u hu
    · cases e
theorem evParts_ren {ρ : Env} {n : Nat} {regs : List AV} {a : Act} (h : RegRel ρ n regs a.tmps) : ∀ {l : List (Nat × Operand)} {vs : List (Nat × AV)}, evParts regs l = some vs → l.map (fun p => (p.1, a.eval p.2)) = vs.map (fun p => (p.1, ren ρ p.2)) ∧ ∀ v ∈ vs, v.2.bd n
  | [], vs, e => by simp [evParts] at e; subst e; simp
  | (i, x) :: l, vs, e => by
    simp only [evParts] at e
    split at e
    · rename_i v vs' h1 h2
      injection e with e
      subst e
      obtain ⟨e1, e2, _⟩ := evA_ren h h1
      obtain ⟨e3, e4⟩ := evParts_ren h h2
      refine ⟨by simp [e1, e3], fun u hu => ?_⟩
      rcases List.mem_cons.1 hu with rfl | hu
      · exact e2
      · exact e4 u hu
    · cases e

/-! ### Reading -/
theorem loadN_cell {cs l : List AV} {off n : Nat} (h : loadN cs off n = some l) : ∀ v ∈ l, v.cell = true := by
  unfold loadN at h
  split at h
  · rename_i hle
    injection h with h
    subst h
    exact List.all_eq_true.1 hle.2
  · cases h
theorem cell_nj {v : AV} (h : v.cell = true) : v ≠ .junk := by
  rintro rfl
  cases h
theorem loadN_some {cs l : List AV} {off n : Nat} (h : loadN cs off n = some l) : off + n ≤ cs.length ∧ l.length = n ∧ (∀ v ∈ l, v ∈ cs) ∧ ∀ j, j < n → l[j]? = cs[off + j]? := by
  unfold loadN at h
  split at h
  · rename_i hle
    obtain ⟨hle, _⟩ := hle
    injection h with h
    subst h
    refine ⟨hle, by simp; omega, fun v hv => List.mem_of_mem_drop (List.mem_of_mem_take hv), fun j hj => ?_⟩
    rw [List.getElem?_take_of_lt hj, List.getElem?_drop]
  · cases h
/-- A row's cells, in memory. -/
theorem HRel.cells {ρ : Env} {H : Heap} {w : World} (h : HRel ρ H w) {id : Nat} {cs : List AV} (hc : H.cells id = some cs) :
    (∀ v ∈ cs, v.bd H.next) ∧ id < H.next ∧ ∀ i v, cs[i]? = some v → ∃ ad, ρ.addr id = some ad ∧ (v = .junk ∨ w.cell? (ad.add i) = some (ren ρ v)) := by
  unfold Heap.cells at hc
  split at hc
  · rename_i cs' f e hg
    injection hc with hc
    subst hc
    refine ⟨h.bd id _ hg, h.lt id _ hg, fun i v hv => ?_⟩
    obtain ⟨b, e1, e2, arr, fr, e3, e4, e5, e6, e6', e7, e8⟩ := h.own id _ hg rfl
    refine ⟨_, e1, ?_⟩
    rw [add_base]
    rcases e8 i v hv with e8 | e8
    · exact .inl e8
    · exact .inr (by simp [World.cell?, e3, e8])
  · rename_i cs' hg
    injection hc with hc
    subst hc
    refine ⟨h.bd id _ hg, h.lt id _ hg, fun i v hv => ?_⟩
    obtain ⟨ad, e1, e2, _⟩ := h.ro id _ hg i v hv
    exact ⟨ad, e1, .inr e2⟩
  · cases hc
theorem HRel.at_ {ρ : Env} {H : Heap} {w : World} (h : HRel ρ H w) {v : AV} {n : Nat} {l : List AV} (hl : H.at_ v n = some l) :
    0 < n ∧ l.length = n ∧ (∀ x ∈ l, x.bd H.next) ∧ ∃ ad, ren ρ v = .pointer (some ad) ∧ ∀ j x, l[j]? = some x → w.cell? (ad.add j) = some (ren ρ x) := by
  cases v with
  | ptr id off =>
    simp only [Heap.at_] at hl
    split at hl
    · rename_i cs hc
      split at hl
      · rename_i hn
        obtain ⟨e1, e2, e3⟩ := h.cells hc
        obtain ⟨f1, f2, f3, f4⟩ := loadN_some hl
        have h0 : cs[off]? = some (cs[off]'(by omega)) := List.getElem?_eq_getElem _
        obtain ⟨ad, g1, g2⟩ := e3 off _ h0
        refine ⟨hn, f2, fun x hx => e1 x (f3 x hx), ad.add off, by simp [ren, g1], fun j x hx => ?_⟩
        have hj : j < n := by
          have := (List.getElem?_eq_some_iff.1 hx).1
          omega
        have hx0 := hx
        rw [f4 j hj] at hx
        obtain ⟨ad', k1, k2⟩ := e3 _ x hx
        rw [g1] at k1
        injection k1 with k1
        subst k1
        rw [add_add]
        exact k2.resolve_left (cell_nj (loadN_cell hl x (List.mem_of_getElem? hx0)))
      · cases hl
    · cases hl
  | gptr g off =>
    simp only [Heap.at_] at hl
    split at hl
    · rename_i cs hc
      split at hl
      · rename_i hn
        obtain ⟨f1, f2, f3, f4⟩ := loadN_some hl
        have key := h.gl g cs hc
        refine ⟨hn, f2, fun x hx => ?_, (⟨g, 0, none⟩ : Addr).add off, by simp [ren], fun j x hx => ?_⟩
        · obtain ⟨i, hi⟩ := List.getElem?_of_mem (f3 x hx)
          exact (key i x hi).2.1
        · have hj : j < n := by
            have := (List.getElem?_eq_some_iff.1 hx).1
            omega
          rw [f4 j hj] at hx
          rw [add_add]
          exact (key _ x hx).1
      · cases hl
    · cases hl
  | _ => simp [Heap.at_] at hl
theorem run_loadCellsFrom {w : World} {a : Addr} : ∀ (n i : Nat) (acc : Array Value) (vs : List Value), vs.length = n → (∀ j v, vs[j]? = some v → w.cell? (a.add (i + j)) = some v) → (loadCellsFrom a i n acc).run P w = .ok (acc ++ vs.toArray) w
  | 0, i, acc, vs, hl, h => by
    obtain rfl : vs = [] := List.eq_nil_of_length_eq_zero hl
    simp [loadCellsFrom]
  | n + 1, i, acc, vs, hl, h => by
    cases vs with
    | nil => simp at hl
    | cons v vs =>
      have h0 := h 0 v rfl
      simp only [Nat.add_zero] at h0
      have ih := run_loadCellsFrom n (i + 1) (acc.push v) vs (by simpa using hl) (fun j u hu => by
        have := h (j + 1) u (by simpa using hu)
        rw [show i + 1 + j = i + (j + 1) from by omega]
        exact this)
      simp only [loadCellsFrom, Sem.run_bind, run_load, h0, Result.andThen_ok, ih]
      simp
theorem run_loadCells {w : World} {a : Addr} {n : Nat} {vs : List Value} (hl : vs.length = n) (h : ∀ j v, vs[j]? = some v → w.cell? (a.add j) = some v) : (loadCells a n).run P w = .ok vs.toArray w := by
  unfold loadCells
  rw [run_loadCellsFrom n 0 #[] vs hl (fun j v hv => by rw [Nat.zero_add]; exact h j v hv)]
  simp
theorem cells_of_list {ρ : Env} {w : World} {ad : Addr} {l : List AV} (h : ∀ j x, l[j]? = some x → w.cell? (ad.add j) = some (ren ρ x)) : ∀ j v, (l.map (ren ρ))[j]? = some v → w.cell? (ad.add j) = some v := by
  intro j v hv
  rw [List.getElem?_map] at hv
  cases hl : l[j]? with
  | none => simp [hl] at hv
  | some x => simp [hl] at hv; subst hv; exact h j x hl

theorem loadA_sound {ρ : Env} {H : Heap} {w : World} (h : HRel ρ H w) {t : TypeId} {v x : AV} (hx : loadA P t v H = some x) : (Instr.loadAt t (ren ρ v)).run P w = .ok (ren ρ x) w ∧ x.bd H.next := by
  unfold loadA ldA ld1 at hx
  split at hx
  · rename_i n ha hs
    cases hl : H.at_ v n with
    | none => simp [hl] at hx
    | some l =>
      simp [hl] at hx
      subst hx
      obtain ⟨e0, e1, e2, ad, e3, e4⟩ := h.at_ hl
      refine ⟨?_, by simp only [AV.bd]; exact e2⟩
      simp [Instr.loadAt, Instr.sureAddr, e3, loadVar, run_agg ha, run_siz hs, run_loadCells (P := P) (vs := l.map (ren ρ)) (by simpa using e1) (cells_of_list e4), ren]
  · rename_i n ha hs
    split at hx
    · rename_i y hl
      injection hx with hx
      subst hx
      obtain ⟨e0, e1, e2, ad, e3, e4⟩ := h.at_ hl
      have := e4 0 y rfl
      rw [show ad.add 0 = ad from by simp [Addr.add]] at this
      refine ⟨?_, e2 y (by simp)⟩
      simp [Instr.loadAt, Instr.sureAddr, e3, loadVar, run_agg ha, this]
    · cases hx
  · cases hx

/-! ### Writing -/
/-- Cells written one behind the other. -/
theorem run_storeCells {b off : Nat} {e : TypeId} {fr : Nat × Nat} : ∀ (vs : List Value) (i : Nat) (w : World) (arr : Array Value), (∀ v ∈ vs, v.oneCell' = true) → w.heap[b]? = some (.cells arr e fr) → off + i + vs.length ≤ arr.size →
    (∀ j, j < arr.size → ¬(fr.1 ≤ j ∧ j < fr.2)) → ∃ w' arr', (storeCells ⟨b, off, none⟩ vs i).run P w = .ok () w' ∧ w'.heap.size = w.heap.size ∧ (∀ k, k ≠ b → w'.heap[k]? = w.heap[k]?) ∧ w'.heap[b]? = some (.cells arr' e fr) ∧
      arr'.size = arr.size ∧ (∀ j, arr'[j]? = if off + i ≤ j ∧ j < off + i + vs.length then vs[j - (off + i)]? else arr[j]?) ∧ w'.os = w.os ∧ w'.tape = w.tape ∧ w'.output = w.output
  | [], i, w, arr, hv, hb, hl, hf => ⟨w, arr, by simp [storeCells], rfl, fun _ _ => rfl, hb, rfl, fun j => by rw [if_neg (by simp)], rfl, rfl, rfl⟩
  | v :: vs, i, w, arr, hv, hb, hl, hf => by
    simp only [List.length_cons] at hl
    have ha : (⟨b, off, none⟩ : Addr).add i = ⟨b, off + i, none⟩ := by unfold Addr.add; split <;> simp_all
    have hc : w.cell? ⟨b, off + i, none⟩ = some (arr[off + i]'(by omega)) := by
      simp [World.cell?, hb, Array.getElem?_eq_getElem (show off + i < arr.size by omega)]
    have hz : w.frozen? ⟨b, off + i, none⟩ = false := by
      have := hf (off + i) (by omega)
      simp only [World.frozen?, hb]
      simpa using this
    have hs := run_store P w ⟨b, off + i, none⟩ v .plain (hv v (by simp))
    rw [hc] at hs
    simp only [hz, Bool.false_eq_true, if_false] at hs
    have hb1 : (w.setCell ⟨b, off + i, none⟩ v).heap[b]? = some (.cells (arr.setIfInBounds (off + i) v) e fr) := by
      simp [World.setCell, Array.getElem?_modify, hb]
    obtain ⟨w', arr', f1, f2, f3, f4, f5, f6, f7, f8, f9⟩ := run_storeCells (off := off) vs (i + 1) (w.setCell ⟨b, off + i, none⟩ v) (arr.setIfInBounds (off + i) v) (fun u hu => hv u (by simp [hu])) hb1 (by simp; omega) (by simpa using hf)
    refine ⟨w', arr', ?_, ?_, ?_, f4, ?_, ?_, f7, f8, f9⟩
    · simp only [storeCells, Sem.run_bind, ha, hs, Result.andThen_ok, f1]
    · rw [f2]; simp [World.setCell]
    · intro k hk; rw [f3 k hk]; exact Below.heap_setCell _ _ _ _ hk
    · rw [f5]; simp
    · intro j
      rw [f6 j]
      simp only [List.length_cons]
      by_cases h1 : off + (i + 1) ≤ j ∧ j < off + (i + 1) + vs.length
      · rw [if_pos h1, if_pos (by omega), show j - (off + i) = (j - (off + (i + 1))) + 1 from by omega]
        simp
      · rw [if_neg h1, Array.getElem?_setIfInBounds]
        by_cases h2 : off + i = j
        · subst h2
          rw [if_pos rfl, if_pos (by omega), if_pos (by omega)]
          simp
        · rw [if_neg h2, if_neg (by omega)]
theorem splice_length {cs l : List AV} {off : Nat} (h : off + l.length ≤ cs.length) : (splice cs off l).length = cs.length := by simp [splice]; omega
theorem splice_get {cs l : List AV} {off : Nat} (h : off + l.length ≤ cs.length) (j : Nat) : (splice cs off l)[j]? = if off ≤ j ∧ j < off + l.length then l[j - off]? else cs[j]? := by
  unfold splice
  by_cases h1 : j < off
  · rw [if_neg (by omega), List.append_assoc, List.getElem?_append_left (by simp; omega), List.getElem?_take_of_lt h1]
  · by_cases h2 : j < off + l.length
    · rw [if_pos (by omega), List.getElem?_append_left (by simp; omega), List.getElem?_append_right (by simp; omega)]
      congr 1; simp; omega
    · rw [if_neg (by omega), List.getElem?_append_right (by simp; omega), List.getElem?_drop]
      congr 1; simp; omega
theorem splice_mem {cs l : List AV} {off : Nat} {v : AV} (h : v ∈ splice cs off l) : v ∈ cs ∨ v ∈ l := by
  unfold splice at h
  rcases List.mem_append.1 h with h | h
  · rcases List.mem_append.1 h with h | h
    · exact .inl (List.mem_of_mem_take h)
    · exact .inr h
  · exact .inl (List.mem_of_mem_drop h)
theorem all_cell {ρ : Env} {l : List AV} (h : l.all AV.cell = true) : ∀ v ∈ l.map (ren ρ), v.oneCell' = true := by
  intro v hv
  obtain ⟨u, hu, rfl⟩ := List.mem_map.1 hv
  exact ren_cell (List.all_eq_true.1 h u hu)
theorem put_sound {ρ : Env} {H H' : Heap} {w : World} (h : HRel ρ H w) {id off : Nat} {l : List AV} (hb : ∀ v ∈ l, v.bd H.next) (hp : H.put id off l = some H') :
    ∃ b w', ρ.addr id = some ⟨b, 0, none⟩ ∧ (storeCells ⟨b, off, none⟩ (l.map (ren ρ)) 0).run P w = .ok () w' ∧ Sim ρ H w ρ H' w' := by
  unfold Heap.put at hp
  split at hp
  · rename_i hall
    split at hp
    · rename_i cs full e hg
      split at hp
      · rename_i hle
        injection hp with hp
        subst hp
        obtain ⟨b, e1, e2, arr, fr, e3, e4, e5, e6, e6', e7, e8⟩ := h.own id _ hg rfl
        obtain ⟨w', arr', f1, f2, f3, f4, f5, f6, f7, f8, f9⟩ := run_storeCells (P := P) (b := b) (off := off) (l.map (ren ρ)) 0 w arr (all_cell hall) e3 (by simp; omega) (unfrozen e5)
        refine ⟨b, w', e1, f1, Sim.write h hg rfl e1 rfl ?_ ?_ f2 f3 f7 f8 f9⟩
        · intro v hv
          rcases splice_mem hv with hv | hv
          · exact h.bd id _ hg v hv
          · exact hb v hv
        · refine ⟨arr', fr, f4, by omega, by rw [f5]; exact e5, fun hf => by rw [f5, splice_length hle]; exact e6 hf, e6', by rw [f5, splice_length hle]; exact e7, fun i v hv => ?_⟩
          rw [splice_get hle] at hv
          rw [f6 i]
          simp only [Nat.add_zero, List.length_map]
          split at hv
          · rename_i hi
            rw [if_pos hi, List.getElem?_map, hv]
            exact .inr rfl
          · rename_i hi
            rw [if_neg hi]
            exact e8 i v hv
      · cases hp
    · cases hp
  · cases hp
theorem ren_cells {ρ : Env} (v : AV) : (ren ρ v).cells = (v.cells.map (ren ρ)).toArray := by
  cases v with
  | sl id off len c => cases c <;> simp [ren, Value.cells, AV.cells]
  | mp r => cases r <;> simp [ren, Value.cells, AV.cells]
  | _ => simp [ren, Value.cells, AV.cells]
theorem cells_bd {v : AV} {n : Nat} (h : v.bd n) : ∀ x ∈ v.cells, x.bd n := by
  cases v with
  | agg l => simpa [AV.bd, AV.cells] using h
  | _ => intro x hx; simp [AV.cells] at hx; subst hx; exact h
theorem agg_or_cell {v : AV} (h : v.cells.all AV.cell = true) : v.cell = true ∨ ∃ l, v = .agg l := by
  cases v with
  | agg l => exact .inr ⟨l, rfl⟩
  | _ => simp [AV.cells] at h; exact .inl h
theorem storeA_sound {ρ : Env} {H H' : Heap} {w : World} (h : HRel ρ H w) {t : TypeId} {a v : AV} (hb : v.bd H.next) (hx : storeA P t a v H = some H') :
    ∃ w', (Instr.storeAt t (ren ρ a) (ren ρ v)).run P w = .ok () w' ∧ Sim ρ H w ρ H' w' := by
  unfold storeA at hx
  split at hx
  · rename_i n id off hs
    split at hx
    · rename_i hn
      have hall : v.cells.all AV.cell = true := by
        unfold Heap.put at hx
        split at hx
        · assumption
        · cases hx
      obtain ⟨b, w', e1, e2, e3⟩ := put_sound (P := P) h (cells_bd hb) hx
      refine ⟨w', ?_, e3⟩
      have hc := ren_cells (ρ := ρ) v
      simp [Instr.storeAt, Instr.sureAddr, ren, e1, storeVar, run_siz hs, hc, hn, add_base, e2]
    · cases hx
  · cases hx

/-! ### Making -/
theorem newRow_run {w : World} {e : TypeId} {arr : Array Value} : (newRow e arr).run P w = .ok ⟨w.heap.size, 0, none⟩ (w.alloc (.cells arr e)) := by
  simp [newRow]
theorem alloc_facts (w : World) (o : Obj) : (w.alloc o).heap.size = w.heap.size + 1 ∧ (∀ k, k < w.heap.size → (w.alloc o).heap[k]? = w.heap[k]?) ∧ (w.alloc o).heap[w.heap.size]? = some o ∧ (w.alloc o).os = w.os ∧ (w.alloc o).tape = w.tape ∧ (w.alloc o).output = w.output :=
  ⟨by simp, fun k hk => Below.heap_alloc _ _ _ hk, by show (w.heap.push o)[w.heap.size]? = some o; simp, rfl, rfl, rfl⟩
/-- A new row of cells, some of them told. -/
theorem Sim.newRow {ρ : Env} {H : Heap} {w w1 : World} (h : HRel ρ H w) (hw : w1.heap = w.heap ∧ w1.os = w.os ∧ w1.tape = w.tape ∧ w1.output = w.output) {cs : List AV} {full : Fill} {e : TypeId} {arr : Array Value} (hb : ∀ v ∈ cs, v.bd H.next)
    (hf : full ≠ .no → arr.size = cs.length) (hl : cs.length ≤ arr.size) (hc : ∀ (i : Nat) (v : AV), cs[i]? = some v → v = .junk ∨ arr[i]? = some (ren ρ v)) :
    Sim ρ H w (ρ.set H.next (some ⟨w.heap.size, 0, none⟩) arr.size (⟨0, 0, none⟩, 0)) (H.alloc (.row cs full e)) (w1.alloc (.cells arr e)) := by
  obtain ⟨hw1, hw2, hw3, hw4⟩ := hw
  obtain ⟨f1, f2, f3, f4, f5, f6⟩ := alloc_facts w1 (.cells arr e)
  rw [hw1] at f1 f2 f3
  refine Sim.new arr.size h rfl hb f1 f2 ⟨arr, (0, 0), f3, rfl, by simp, hf, by simp, hl, fun i v hv => ?_⟩ (f4.trans hw2) (f5.trans hw3) (f6.trans hw4)
  rw [ren_ext (Env.set_ext _ _ _ _ _) v (hb v (List.mem_of_getElem? hv))]
  exact hc i v hv
theorem list_get {ρ : Env} {cs : List AV} : ∀ (i : Nat) (v : AV), cs[i]? = some v → v = .junk ∨ (cs.map (ren ρ)).toArray[i]? = some (ren ρ v) := by
  intro i v hv
  exact .inr (by simp [hv])
/-- A new variable that holds a value. -/
theorem newA_sound {ρ : Env} {H H' : Heap} {w : World} (h : HRel ρ H w) {t : TypeId} {v x : AV} (hb : v.bd H.next) (hx : newA t v.cells H = some (x, H')) :
    ∃ ρ' w', (newVar t (ren ρ v)).run P w = .ok ⟨w.heap.size, 0, none⟩ w' ∧ ren ρ' x = .pointer (some ⟨w.heap.size, 0, none⟩) ∧ Sim ρ H w ρ' H' w' ∧ x.bd H'.next := by
  unfold newA at hx
  split at hx
  · rename_i hall
    injection hx with hx
    injection hx with hx1 hx2
    subst hx1 hx2
    have hc := ren_cells (ρ := ρ) v
    refine ⟨_, _, by rw [newVar, hc]; exact newRow_run, ?_, Sim.newRow h ⟨rfl, rfl, rfl, rfl⟩ (cells_bd hb) (fun _ => by simp) (by simp) list_get, by simp [AV.bd]⟩
    simp [ren, add_base]
  · cases hx

end Go.Proofs.YtlcfkeigipkhlaaGreatDoorAbs
