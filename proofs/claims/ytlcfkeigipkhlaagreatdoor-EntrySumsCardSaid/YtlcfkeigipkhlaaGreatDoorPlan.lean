/- A region whose operations come up in any order: the abstract machine's one order tells of all. -/
import Derived.Test.YtlcfkeigipkhlaaGreatDoorBorn
set_option linter.unusedVariables false
set_option linter.unusedSimpArgs false
namespace Go.Proofs.YtlcfkeigipkhlaaGreatDoorAbs
open Go.RowKit
variable {P : Program}

theorem zero_cells_bd {t : TypeId} {z : AV} (hz : zeroA P t = some z) (n : Nat) : ∀ v ∈ z.cells, v.bd n :=
  cells_bd ((run_zero (P := P) (ρ := ⟨fun _ => none, fun _ => 0, fun _ => (default, 0)⟩) (w := default) hz).2 n)

theorem lateA_bd {ρ : Env} {n : Nat} {o : Oper} {regs : List AV} {a : Act} {ob : AObj} {mk : Nat → AV} (hr : RegRel ρ n regs a.tmps) (h : lateA P o regs = some (ob, mk)) : ob.bd n := by
  have rep : ∀ {e : TypeId} {z : List AV}, zcellsA P e = some z → ∀ k, ∀ u ∈ repeatL z k, u.bd n := by
    intro e z hz k u hu
    obtain ⟨v, z1, z2, z3, z4⟩ := zcellsA_some hz
    have := repeatL_mem z k u hu
    rw [← z2] at this
    exact zero_cells_bd z1 n u this
  unfold lateA at h
  split at h
  · split at h
    · rename_i z hz
      split at h
      · injection h with h; injection h with h1 h2; subst h1 h2
        exact zero_cells_bd hz n
      · cases h
    · cases h
  · split at h
    · rename_i v hv
      split at h
      · injection h with h; injection h with h1 h2; subst h1 h2
        exact cells_bd (evA_ren hr hv).2.1
      · cases h
    · cases h
  · split at h
    · rename_i parts e hp he
      split at h
      · rename_i z hz
        split at h
        · split at h
          · rename_i cs hf
            split at h
            · injection h with h; injection h with h1 h2; subst h1 h2
              exact (fillA_sound (ρ := ρ) hf).2.2 n (rep hz _) (evParts_ren hr hp).2
            · cases h
          · cases h
        · cases h
      · cases h
    · cases h
  · split at h
    · split at h
      · rename_i z b hz hb
        split at h
        · injection h with h; injection h with h1 h2; subst h1 h2
          exact rep hz _
        · cases h
      · cases h
    · cases h
  · injection h with h; injection h with h1 h2; subst h1 h2
    intro p hp
    cases hp
  · cases h

/-! ### What a plan says -/
def addAll (m : Nat) (ls : List (Nat × Nat × Oper)) : Nat := ls.foldl (fun m x => addM m x.1) m
theorem hasM_addAll : ∀ (ls : List (Nat × Nat × Oper)) (m i : Nat), hasM (addAll m ls) i = true ↔ (hasM m i = true ∨ ∃ x ∈ ls, x.1 = i)
  | [], m, i => by simp [addAll]
  | x :: ls, m, i => by
    have := hasM_addAll ls (addM m x.1) i
    simp only [addAll, List.foldl_cons] at this ⊢
    rw [this, hasM_add]
    simp only [Bool.or_eq_true, decide_eq_true_eq, List.mem_cons]
    constructor
    · rintro ((h | h) | ⟨y, h1, h2⟩)
      · exact .inl h
      · exact .inr ⟨x, .inl rfl, h⟩
      · exact .inr ⟨y, .inr h1, h2⟩
    · rintro (h | ⟨y, rfl | h1, h2⟩)
      · exact .inl (.inl h)
      · exact .inl (.inr h2)
      · exact .inr ⟨y, h1, h2⟩
theorem mem_readyM {l : List (Nat × Nat × Oper)} {m : Nat} {x : Nat × Nat × Oper} : x ∈ readyM l m ↔ x ∈ l ∧ hasM m x.1 = false ∧ ∀ k, hasM x.2.1 k = true → hasM m k = true := by
  unfold readyM
  rw [List.mem_filter, Bool.and_eq_true, sub_iff]
  simp

def latesOf (P : Program) (ops : Array Oper) (l : List (Nat × Nat × Oper)) (m : Nat) : List (Nat × Nat × Oper) := (readyM l m).filter fun x => isLate P x && freeM ops l m x

inductive Planned (P : Program) (ops : Array Oper) (l : List (Nat × Nat × Oper)) : Nat → List PStep → Prop
  | done (m : Nat) (h : readyM l m = []) : Planned P ops l m []
  | inert (m : Nat) (x : Nat × Nat × Oper) (rest : List PStep) (h1 : x ∈ readyM l m) (h2 : isInert P x = true) (h3 : freeM ops l m x = true) (h4 : Planned P ops l (addM m x.1) rest) : Planned P ops l m (⟨x.1, x.2.1, x.2.2, .inert, []⟩ :: rest)
  | hard (m : Nat) (x : Nat × Nat × Oper) (rest : List PStep) (h1 : x ∈ readyM l m) (h2 : isLate P x = false) (h3 : ∀ y ∈ readyM l (addAll m (latesOf P ops l m)), y = x) (h4 : Planned P ops l (addM m x.1) rest) : Planned P ops l m (⟨x.1, x.2.1, x.2.2, .hard, (latesOf P ops l m).map (·.2.2)⟩ :: rest)
  | late (m : Nat) (x : Nat × Nat × Oper) (rest : List PStep) (h1 : x ∈ latesOf P ops l m) (h3 : ∀ y ∈ readyM l (addAll m (latesOf P ops l m)), hasM y.2.1 x.1 = true) (h4 : Planned P ops l (addM m x.1) rest) : Planned P ops l m (⟨x.1, x.2.1, x.2.2, .late, (latesOf P ops l m).map (·.2.2)⟩ :: rest)

theorem planned {ops : Array Oper} : ∀ (n m : Nat) (pl : List PStep), planA P ops (numbered 0 ops.toList) n m = some pl → Planned P ops (numbered 0 ops.toList) m pl
  | 0, m, pl, h => by
    simp only [planA] at h
    split at h
    · rename_i hr
      injection h with h
      subst h
      exact .done _ hr
    · cases h
  | n + 1, m, pl, h => by
    have ih : ∀ m pl, planA P ops (numbered 0 ops.toList) n m = some pl → Planned P ops (numbered 0 ops.toList) m pl := fun m pl h => planned n m pl h
    generalize hl : numbered 0 ops.toList = l at *
    simp only [planA] at h
    split at h
    · rename_i x hx
      have h1 := List.find?_some hx
      simp only [Bool.and_eq_true] at h1
      cases hp : planA P ops l n (addM m x.1) with
      | none => simp [hp] at h
      | some rest =>
        simp [hp] at h
        subst h
        exact .inert _ x rest (List.mem_of_find?_eq_some hx) h1.1 h1.2 (ih _ _ hp)
    · have hla : (List.foldl (fun m x => addM m x.1) m (List.filter (fun x => isLate P x && freeM ops l m x) (readyM l m))) = addAll m (latesOf P ops l m) := rfl
      rw [hla] at h
      have hlb : List.filter (fun x => isLate P x && freeM ops l m x) (readyM l m) = latesOf P ops l m := rfl
      rw [hlb] at h
      generalize hrs : readyM l (addAll m (latesOf P ops l m)) = rs at h
      generalize hhs : (rs.filter fun x => (readyM l m).any fun y => y.1 == x.1) = hs at h
      split at h
      · rename_i y x
        split at h
        · cases h
        · rename_i hnl
          cases hp : planA P ops l n (addM m x.1) with
          | none => simp [hp] at h
          | some rest =>
            simp [hp] at h
            subst h
            have hx : x ∈ readyM l m := by
              have : y ∈ List.filter (fun x => (readyM l m).any fun y => y.1 == x.1) [x] := by rw [hhs]; simp
              rw [List.mem_filter] at this
              obtain ⟨h1, h2⟩ := this
              simp only [List.mem_singleton] at h1
              subst h1
              obtain ⟨z, hz1, hz2⟩ := List.any_eq_true.1 h2
              have hz2 : z.1 = y.1 := by simpa using hz2
              have hy : y ∈ readyM l (addAll m (latesOf P ops l m)) := by rw [hrs]; simp
              have e1 := mem_num0.1 (hl ▸ (mem_readyM.1 hz1).1)
              have e2 := mem_num0.1 (hl ▸ (mem_readyM.1 hy).1)
              have : z = y := by
                obtain ⟨z1, z2, z3⟩ := z
                obtain ⟨y1, y2, y3⟩ := y
                simp only at hz2 e1 e2
                subst hz2
                rw [e1.1] at e2
                obtain ⟨e2, e3⟩ := e2
                injection e2 with e2
                subst e2
                rw [e1.2, e3]
              rw [← this]
              exact hz1
            exact .hard _ x rest hx (by simpa using hnl) (fun y hy => by rw [hrs] at hy; simpa using hy) (ih _ _ hp)
      · rename_i rs'
        split at h
        · rename_i x ls hls
          split at h
          · rename_i hall
            cases hp : planA P ops l n (addM m x.1) with
            | none => simp [hp] at h
            | some rest =>
              simp [hp] at h
              subst h
              exact .late _ x rest (by rw [hls]; simp) (fun y hy => by rw [hrs] at hy; exact List.all_eq_true.1 hall y hy) (ih _ _ hp)
          · cases h
        · split at h
          · rename_i hr
            injection h with h
            subst h
            exact .done _ hr
          · cases h
      · cases h

/-! ### The relation between the plan's walk and any order's -/
section
variable {ops : Array Oper}

/-- Block e.2 bears what maker number e.1 will be told to have made. -/
def Early (P : Program) (ops : Array Oper) (m : Nat) (w0 : World) (ρ : Env) (H : Heap) (w : World) (regs : List AV) (a : Act) (e : Nat × Nat) : Prop :=
  ∃ o ob mk val z, ops[e.1]? = some o ∧ (e.1, predM o, o) ∈ latesOf P ops (numbered 0 ops.toList) m ∧ lateA P o regs = some (ob, mk) ∧ w0.heap.size ≤ e.2 ∧ e.2 < w.heap.size ∧ ¬Owned ρ H e.2 ∧ ORel ρ w e.2 z ob ∧ ob.bd H.next ∧
    (∀ (ρ' : Env) (n : Nat), ρ'.addr n = some ⟨e.2, 0, none⟩ → ren ρ' (mk n) = val) ∧ ∀ d, o.dst = some d → d < a.tmps.size → a.tmps[d]? = some val

structure Inv (P : Program) (ops : Array Oper) (ρ0 : Env) (H0 : Heap) (w0 : World) (ds : List Deferred) (m : Nat) (E : List (Nat × Nat)) (L : Array Bool) (ρ : Env) (H : Heap) (w : World) (a : Act) (regs : List AV) (hs : List Hold) : Prop where
  s0 : Sim ρ0 H0 w0 ρ H w
  rr : RegRel ρ H.next regs a.tmps
  dd : a.defers = ds
  lsz : L.size = ops.size
  lst : ∀ i, L.getD i false = true ↔ (hasM m i = true ∨ i ∈ E.map (·.1))
  early : ∀ e ∈ E, Early P ops m w0 ρ H w regs a e
  nd1 : (E.map (·.1)).Nodup
  nd2 : (E.map (·.2)).Nodup
  holds : ∀ h ∈ hs, h.holds P H ∧ h.bd H.next
  junk : ∀ x ∈ numbered 0 ops.toList, isLate P x = true → hasM m x.1 = false → ∀ d, x.2.2.dst = some d → d < regs.length → regs[d]? = some .junk

def unl (L : Array Bool) : Nat := L.toList.countP (· == false)
theorem unl_set {L : Array Bool} {i : Nat} (h : L.getD i true = false) : unl (L.setIfInBounds i true) + 1 = unl L := by
  have hi : i < L.size := by
    rcases Nat.lt_or_ge i L.size with h' | h'
    · exact h'
    · simp [Array.getElem?_eq_none h'] at h
  have hv : L[i] = false := by simpa [hi] using h
  unfold unl
  rw [Array.toList_setIfInBounds, List.countP_set (by simpa using hi)]
  have h1 : L.toList[i]'(by simpa using hi) = false := by simpa using hv
  have hpos : 0 < L.toList.countP (· == false) := List.countP_pos_iff.2 ⟨false, by rw [← h1]; exact List.getElem_mem _, rfl⟩
  rw [h1]
  show _ - 1 + 0 + 1 = _
  omega

theorem getD_iff {L : Array Bool} {i : Nat} : L.getD i true = false ↔ i < L.size ∧ L.getD i false = false := by
  rcases Nat.lt_or_ge i L.size with h | h
  · simp [h]
  · simp [Array.getElem?_eq_none h]; omega

theorem getD_set {L : Array Bool} {i k : Nat} (hi : i < L.size) : (L.setIfInBounds i true).getD k false = true ↔ (L.getD k false = true ∨ k = i) := by
  by_cases h : k = i
  · subst h; simp [hi]
  · simp [Array.getElem?_setIfInBounds_ne (Ne.symm h), h]

/-- What may come up is what the plan knows of. -/
theorem Inv.ready {ρ0 H0 w0 ds m E L ρ H w a regs hs} (I : Inv P ops ρ0 H0 w0 ds m E L ρ H w a regs hs) {j : Nat} (hj : j ∈ Region.ready .any ops L) :
    ∃ o, ops[j]? = some o ∧ hasM m j = false ∧ j ∉ E.map (·.1) ∧ (j, predM o, o) ∈ numbered 0 ops.toList ∧ ∀ k, hasM (predM o) k = true → (hasM m k = true ∨ k ∈ E.map (·.1)) := by
  obtain ⟨h1, o, h2, h3⟩ := mem_ready.1 hj
  have h4 := (getD_iff.1 h1).2
  have h5 : ¬(hasM m j = true ∨ j ∈ E.map (·.1)) := fun h => by rw [(I.lst j).2 h] at h4; cases h4
  refine ⟨o, h2, by cases h : hasM m j <;> simp_all, fun h => h5 (.inr h), mem_num0.2 ⟨h2, rfl⟩, fun k hk => ?_⟩
  obtain ⟨e, e1, e2, e3⟩ := (predM_iff o k).1 hk
  exact (I.lst k).1 (by rw [← e3]; exact h3 e e1 e2)

theorem Inv.ready_of {ρ0 H0 w0 ds m E L ρ H w a regs hs} (I : Inv P ops ρ0 H0 w0 ds m E L ρ H w a regs hs) {x : Nat × Nat × Oper} (hx : x ∈ readyM (numbered 0 ops.toList) m) (hE : x.1 ∉ E.map (·.1)) : x.1 ∈ Region.ready .any ops L := by
  obtain ⟨h1, h2, h3⟩ := mem_readyM.1 hx
  obtain ⟨h4, h5⟩ := mem_num0.1 h1
  refine mem_ready.2 ⟨getD_iff.2 ⟨by rw [I.lsz]; exact (Array.getElem?_eq_some_iff.1 h4).1, ?_⟩, x.2.2, h4, fun e he hb => (I.lst e.on).2 (.inl (h3 e.on ?_))⟩
  · cases h : L.getD x.1 false
    · rfl
    · rcases (I.lst x.1).1 h with h | h
      · rw [h2] at h; cases h
      · exact absurd h hE
  · rw [h5]
    exact (predM_iff _ _).2 ⟨e, he, hb, rfl⟩

/-- The early ones are among those that may come up at once. -/
theorem Inv.early_late {ρ0 H0 w0 ds m E L ρ H w a regs hs} (I : Inv P ops ρ0 H0 w0 ds m E L ρ H w a regs hs) {k : Nat} (hk : k ∈ E.map (·.1)) : ∃ x ∈ latesOf P ops (numbered 0 ops.toList) m, x.1 = k := by
  obtain ⟨e, he, rfl⟩ := List.mem_map.1 hk
  obtain ⟨o, ob, mk, val, z, h1, h2, _⟩ := I.early e he
  exact ⟨_, h2, rfl⟩

/-- Whoever may come up is a maker of the plan's, or it may come up once all those makers have. -/
theorem Inv.ready_cases {ρ0 H0 w0 ds m E L ρ H w a regs hs} (I : Inv P ops ρ0 H0 w0 ds m E L ρ H w a regs hs) {j : Nat} (hj : j ∈ Region.ready .any ops L) :
    (∃ x ∈ latesOf P ops (numbered 0 ops.toList) m, x.1 = j ∧ ops[j]? = some x.2.2 ∧ j ∉ E.map (·.1)) ∨ ∃ y ∈ readyM (numbered 0 ops.toList) (addAll m (latesOf P ops (numbered 0 ops.toList) m)), y.1 = j ∧ ops[j]? = some y.2.2 ∧ j ∉ E.map (·.1) ∧ ∀ k, hasM y.2.1 k = true → (hasM m k = true ∨ k ∈ E.map (·.1)) := by
  obtain ⟨o, h1, h2, h3, h4, h5⟩ := I.ready hj
  by_cases hl : ∃ x ∈ latesOf P ops (numbered 0 ops.toList) m, x.1 = j
  · obtain ⟨x, hx1, hx2⟩ := hl
    subst hx2
    exact .inl ⟨x, hx1, rfl, (mem_num0.1 (mem_readyM.1 (List.mem_filter.1 hx1).1).1).1, h3⟩
  · refine .inr ⟨(j, predM o, o), mem_readyM.2 ⟨h4, ?_, fun k hk => ?_⟩, rfl, h1, h3, h5⟩
    · cases hh : hasM (addAll m (latesOf P ops (numbered 0 ops.toList) m)) j
      · rfl
      · rcases (hasM_addAll _ _ _).1 hh with hh | hh
        · rw [h2] at hh; cases hh
        · exact absurd hh hl
    · refine (hasM_addAll _ _ _).2 ?_
      rcases h5 k hk with h | h
      · exact .inl h
      · exact .inr (I.early_late h)
end

end Go.Proofs.YtlcfkeigipkhlaaGreatDoorAbs
