/- A region whose operations come up in any order: what the abstract machine's one order tells is what all orders do. First: the walk, with conditions on the world for what has been taken first. -/
import Derived.Test.YtlcfkeigipkhlaaGreatDoorStep
import Derived.OrdersHeld
set_option linter.unusedVariables false
set_option linter.unusedSimpArgs false
namespace Go.Proofs.YtlcfkeigipkhlaaGreatDoorAbs
open Go.RowKit
variable {P : Program}

/-! ### Sets of numbers -/
theorem hasM_or (a b i : Nat) : hasM (a ||| b) i = (hasM a i || hasM b i) := by simp [hasM, Nat.testBit_or]
theorem hasM_one (k i : Nat) : hasM (1 <<< k) i = decide (k = i) := by simp [hasM, Nat.one_shiftLeft, Nat.testBit_two_pow]
theorem hasM_add (m k i : Nat) : hasM (addM m k) i = (hasM m i || decide (k = i)) := by simp [addM, hasM_or, hasM_one]
theorem hasM_zero (i : Nat) : hasM 0 i = false := by simp [hasM]
theorem predM_fold : ∀ (l : List Edge) (m i : Nat), hasM (l.foldl (fun m e => if Region.binds .any e then m ||| (1 <<< e.on) else m) m) i = true ↔ (hasM m i = true ∨ ∃ e ∈ l, Region.binds .any e = true ∧ e.on = i)
  | [], m, i => by simp
  | e :: l, m, i => by
    rw [List.foldl_cons, predM_fold l]
    by_cases hb : Region.binds .any e = true
    · simp only [hb, if_true, hasM_or, hasM_one, Bool.or_eq_true, decide_eq_true_eq]
      constructor
      · rintro ((h | h) | ⟨e', h1, h2⟩)
        · exact .inl h
        · exact .inr ⟨e, by simp, hb, h⟩
        · exact .inr ⟨e', by simp [h1], h2⟩
      · rintro (h | ⟨e', h1, h2, h3⟩)
        · exact .inl (.inl h)
        · rcases List.mem_cons.1 h1 with rfl | h1
          · exact .inl (.inr h3)
          · exact .inr ⟨e', h1, h2, h3⟩
    · simp only [hb, if_false]
      constructor
      · rintro (h | ⟨e', h1, h2⟩)
        · exact .inl h
        · exact .inr ⟨e', by simp [h1], h2⟩
      · rintro (h | ⟨e', h1, h2, h3⟩)
        · exact .inl h
        · rcases List.mem_cons.1 h1 with rfl | h1
          · exact absurd h2 hb
          · exact .inr ⟨e', h1, h2, h3⟩
theorem predM_iff (o : Oper) (i : Nat) : hasM (predM o) i = true ↔ ∃ e ∈ o.after, Region.binds .any e = true ∧ e.on = i := by
  unfold predM
  rw [predM_fold]
  simp [hasM_zero]
theorem sub_iff (a m : Nat) : (a &&& m == a) = true ↔ ∀ k, hasM a k = true → hasM m k = true := by
  rw [beq_iff_eq]
  constructor
  · intro h k hk
    rw [← h] at hk
    simp [hasM, Nat.testBit_and] at hk
    exact hk.2
  · intro h
    refine Nat.eq_of_testBit_eq fun i => ?_
    have := h i
    simp only [hasM] at this
    rw [Nat.testBit_and]
    cases ha : a.testBit i <;> simp_all
theorem mem_numbered : ∀ (l : List Oper) (k : Nat) (x : Nat × Nat × Oper), x ∈ numbered k l ↔ ∃ i, l[i]? = some x.2.2 ∧ x.1 = k + i ∧ x.2.1 = predM x.2.2
  | [], k, x => by simp [numbered]
  | o :: l, k, x => by
    simp only [numbered, List.mem_cons, mem_numbered l]
    constructor
    · rintro (rfl | ⟨i, h1, h2, h3⟩)
      · exact ⟨0, by simp⟩
      · exact ⟨i + 1, by simpa using h1, by omega, h3⟩
    · rintro ⟨i, h1, h2, h3⟩
      cases i with
      | zero =>
        left
        obtain ⟨a, b, c⟩ := x
        simp at h1 h2 h3
        subst h1 h2 h3
        rfl
      | succ i => exact .inr ⟨i, by simpa using h1, by omega, h3⟩
theorem mem_num0 {ops : Array Oper} {x : Nat × Nat × Oper} : x ∈ numbered 0 ops.toList ↔ ops[x.1]? = some x.2.2 ∧ x.2.1 = predM x.2.2 := by
  rw [mem_numbered]
  constructor
  · rintro ⟨i, h1, h2, h3⟩
    rw [show x.1 = i by omega]
    exact ⟨by simpa using h1, h3⟩
  · rintro ⟨h1, h2⟩
    exact ⟨x.1, by simpa using h1, by omega, h2⟩

/-! ### The walk -/
section
variable {ops : Array Oper} {Q : Exit → Act → World → Prop}

def waitsFor (ops : Array Oper) (j k : Nat) : Bool :=
  match ops[j]? with
  | some o => hasM (predM o) k
  | none => false

def still (ops : Array Oper) (i : Nat) (Ss : List (Nat × (World → Prop))) : List (Nat × (World → Prop)) := Ss.filter fun p => !waitsFor ops i p.1

/-- Whatever order is picked from here on; behind each operation that is carried out the conditions on the world stand whose operations it does not wait for. -/
def wpAnyV (P : Program) (ops : Array Oper) (Q : Exit → Act → World → Prop) : Nat → Array Bool → List (Nat × (World → Prop)) → Act → World → Prop
  | 0, listed, _, a, w => Region.ready .any ops listed = [] ∧ Q .normal a w
  | fuel + 1, listed, Ss, a, w =>
    (Region.ready .any ops listed = [] → Q .normal a w) ∧
    ∀ i ∈ Region.ready .any ops listed, wpOp P ops Q i (fun a' w' => (∀ p ∈ still ops i Ss, p.2 w') ∧ wpAnyV P ops Q fuel (listed.setIfInBounds i true) (still ops i Ss) a' w') a w

theorem wpAny_of_V : ∀ (fuel : Nat) (listed : Array Bool) (Ss : List (Nat × (World → Prop))) (a : Act) (w : World), wpAnyV P ops Q fuel listed Ss a w → wpAny P .any ops Q fuel listed a w
  | 0, _, _, _, _, h => h
  | fuel + 1, _, _, _, _, h => ⟨h.1, fun i hi => wpOp_mono (fun a' w' h' => wpAny_of_V fuel _ _ a' w' h'.2) (h.2 i hi)⟩

theorem still_sub {i : Nat} {Ss Ss' : List (Nat × (World → Prop))} (hs : ∀ p ∈ Ss', p ∈ Ss) : ∀ p ∈ still ops i Ss', p ∈ still ops i Ss := by
  intro p hp
  unfold still at *
  rw [List.mem_filter] at *
  exact ⟨hs p hp.1, hp.2⟩

theorem wpAnyV_anti : ∀ (fuel : Nat) (listed : Array Bool) (Ss Ss' : List (Nat × (World → Prop))) (a : Act) (w : World), (∀ p ∈ Ss', p ∈ Ss) → wpAnyV P ops Q fuel listed Ss a w → wpAnyV P ops Q fuel listed Ss' a w
  | 0, _, _, _, _, _, _, h => h
  | fuel + 1, _, _, _, _, _, hs, h => ⟨h.1, fun i hi => wpOp_mono (fun a' w' h' => ⟨fun p hp => h'.1 p (still_sub hs p hp), wpAnyV_anti fuel _ _ _ a' w' (still_sub hs) h'.2⟩) (h.2 i hi)⟩

theorem wpAnyV_first {i : Nat} {oi : Oper} {v : Value} {S : World → Prop} (hi : ops[i]? = some oi) (hsel : ∀ (j : Nat) (o : Oper) cs b, ops[j]? = some o → o.op ≠ .select cs b)
    (hQ : ∀ c a w, Q (.panic c) (a.put oi.dst v) w → Q (.panic c) a w) :
    ∀ (fuel : Nat) (listed : Array Bool) (Ss : List (Nat × (World → Prop))) (a : Act) (w : World),
      (∀ j oj, ops[j]? = some oj → j ≠ i → listed.getD j true = false → (∀ e ∈ oj.after, Region.binds .any e = true → e.on ≠ i) → oi.apart ops oj = true) →
      i ∈ Region.ready .any ops listed → YieldsIf P ops S oi v a → S w → (∀ p ∈ Ss, p.2 w) →
      wpAnyV P ops Q fuel (listed.setIfInBounds i true) ((i, S) :: Ss) (a.put oi.dst v) w → wpAnyV P ops Q (fuel + 1) listed Ss a w := by
  intro fuel
  induction fuel with
  | zero =>
    intro listed Ss a w _ hr hy hS hSs H
    refine ⟨fun h => (by rw [h] at hr; cases hr), fun j hj => ?_⟩
    by_cases hji : j = i
    · subst hji; exact hy.wpOp hi hS ⟨fun p hp => hSs p ((List.mem_filter.1 hp).1), H⟩
    · have := ready_mono hj hji
      rw [H.1] at this
      cases this
  | succ fuel ih =>
    intro listed Ss a w hfree hr hy hS hSs H
    refine ⟨fun h => (by rw [h] at hr; cases hr), fun j hj => ?_⟩
    by_cases hji : j = i
    · subst hji
      exact hy.wpOp hi hS ⟨fun p hp => hSs p ((List.mem_filter.1 hp).1), wpAnyV_anti _ _ _ _ _ _ (fun p hp => List.mem_cons_of_mem _ ((List.mem_filter.1 hp).1)) H⟩
    · have h1 := H.2 j (ready_mono hj hji)
      obtain ⟨hjun, oj, hoj, hall⟩ := mem_ready.1 hj
      have hnot : ∀ e ∈ oj.after, Region.binds .any e = true → e.on ≠ i := fun e he hb heq => by
        have h1 := hall e he hb
        have h0 := (mem_ready.1 hr).1
        rw [heq] at h1
        rcases Nat.lt_or_ge i listed.size with h' | h'
        · simp [h'] at h0 h1; rw [h0] at h1; cases h1
        · simp [Array.getElem?_eq_none h'] at h1
      have hdep : waitsFor ops j i = false := by
        unfold waitsFor
        rw [hoj]
        simp only
        cases hh : hasM (predM oj) i
        · rfl
        · obtain ⟨e, he, hb, hon⟩ := (predM_iff oj i).1 hh
          exact absurd hon (hnot e he hb)
      have hst : still ops j ((i, S) :: Ss) = (i, S) :: still ops j Ss := by simp [still, hdep]
      have h2 := wpOp_putIf (S := S) hoj (hfree j oj hoj hji hjun hnot) (fun cs b => hsel i oi cs b hi) (fun cs b => hsel j oj cs b hoj) hQ hy h1
      have hfree' : ∀ k ok, ops[k]? = some ok → k ≠ i → (listed.setIfInBounds j true).getD k true = false →
          (∀ e ∈ ok.after, Region.binds .any e = true → e.on ≠ i) → oi.apart ops ok = true := fun k ok hk hki hun hno => by
        refine hfree k ok hk hki ?_ hno
        by_cases hjk : j = k
        · subst hjk; exact hjun
        · rw [getD_set_ne true hjk] at hun; exact hun
      refine wpOp_mono (fun a' w' h3 => ?_) h2
      obtain ⟨h3, h4, h5⟩ := h3
      rw [hst] at h4 h5
      have hw' := h4 (i, S) (by simp)
      have hSs' : ∀ p ∈ still ops j Ss, p.2 w' := fun p hp => h4 p (List.mem_cons_of_mem _ hp)
      refine ⟨hSs', ih (listed.setIfInBounds j true) (still ops j Ss) a' w' hfree' (ready_mono hr (Ne.symm hji)) h3 hw' hSs' ?_⟩
      rw [Array.setIfInBounds_comm _ _ hji]
      exact h5
end

end Go.Proofs.YtlcfkeigipkhlaaGreatDoorAbs
