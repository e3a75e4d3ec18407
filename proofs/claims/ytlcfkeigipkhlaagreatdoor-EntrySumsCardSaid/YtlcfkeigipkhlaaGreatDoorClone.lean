/- Copies of slices. -/
import Derived.Test.YtlcfkeigipkhlaaGreatDoorSums
set_option linter.unusedVariables false
set_option linter.unusedSimpArgs false
namespace Go.Proofs.YtlcfkeigipkhlaaGreatDoorAbs
open Go Go.Proofs
set_option maxRecDepth 10000
theorem und22 : Tryz.prog.underlying 22 = some (.slice 28) := by kernel_rfl
def CloneC (L : Lib) (g : FuncId) (s e b : Nat) : Prop := ∀ (v : AV) (css : List (List AV)) (H : Heap), Rd H v s css → css.length * b ≤ 70368744177664 →
  Spec Tryz.prog L 1 g [v] H fun r H' => Grown H H' ∧ Own H.next H' r s e css
def C19 (L : Lib) : Prop := CloneC L 19 4 28 16
theorem p19 {L : Lib} (u : Use L 19 a19_0) : C19 L := by
  intro v css H hv hb n hn
  have hnv := nj_cell hv.cell
  rw [ent19 _ _ _ _ u.1 u.2]
  simp (disch := (first | (simp only [wcells, wk, Bool.and_self]; done) | (simp only [nx_alloc, nx_set]; done) | (simp only [nx_alloc, nx_set]; omega) | omega | (rw [decide_eq_true_eq]; omega) | decide)) only [w19, hnv, hv.isnil und22, wb, wk, wnj, wcells, Nat.zero_add, Nat.mul_one, Int.toNat_natCast, idxY_s, Bool.and_self, Nat.reduceAdd, Nat.reduceMul, Nat.reduceSub, Nat.reduceLeDiff, and_self, true_and, Bool.not_true, Bool.not_false, if_true, decide_true, Option.bind_some]
  refine br_all (fun h => ?_) (fun h => ?_)
  · have hnil : v = .nils := by cases v <;> first | rfl | cases h
    simp (disch := (first | (simp only [wcells, wk, Bool.and_self]; done) | (simp only [nx_alloc, nx_set]; done) | (simp only [nx_alloc, nx_set]; omega) | omega | (rw [decide_eq_true_eq]; omega) | decide)) only [w19, wb, wk, wnj, wcells, Nat.zero_add, Nat.mul_one, Int.toNat_natCast, idxY_s, Bool.and_self, Nat.reduceAdd, Nat.reduceMul, Nat.reduceSub, Nat.reduceLeDiff, and_self, true_and, Bool.not_true, Bool.not_false, if_true, decide_true, Option.bind_some]
    refine ⟨Grown.refl _, ?_⟩
    subst hnil
    rcases hv with ⟨_, rfl⟩ | ⟨id, hx, _⟩ | ⟨id, off, c, cs, hx, _⟩
    · exact .nil
    · cases hx
    · cases hx
  · simp (disch := (first | (simp only [wcells, wk, Bool.and_self]; done) | (simp only [nx_alloc, nx_set]; done) | (simp only [nx_alloc, nx_set]; omega) | omega | (rw [decide_eq_true_eq]; omega) | decide)) only [w19, hnv, app22_22_22, repeatL, wb, wk, wnj, wcells, Nat.zero_add, Nat.mul_one, Int.toNat_natCast, idxY_s, Bool.and_self, Nat.reduceAdd, Nat.reduceMul, Nat.reduceSub, Nat.reduceLeDiff, and_self, true_and, Bool.not_true, Bool.not_false, if_true, decide_true, Option.bind_some]
    have g1 : Grown H (H.alloc (.row [] .new 28)) := by (repeat (first | exact Grown.refl _ | assumption | refine Grown.alloc ?_ _ | refine Grown.set ?_ (by first | omega | (simp only [nx_alloc, nx_set]; omega)) _))
    have ho : Own H.next (H.alloc (.row [] .new 28)) (.sl H.next 0 0 (.exact 0)) 4 28 [] := ⟨by simp, .inr (.inl ⟨H.next, .new, rfl, rfl, Nat.le_refl _, by simp, by simp [get_alloc_eq]⟩)⟩
    have hr := hv.mono g1
    obtain ⟨v', H', e1, o1, k1⟩ := ho.apps (z := [.int .u32 0, .int .u16 0, .int .u16 0, .int .i64 0]) (b := 16) (ds := css) rfl (by omega) hr.first.1 hr.first.2 hr.all (by omega) (by simpa using hb) (by simp)
    simp (disch := (first | (simp only [wcells, wk, Bool.and_self]; done) | (simp only [nx_alloc, nx_set]; done) | (simp only [nx_alloc, nx_set]; omega) | omega | (rw [decide_eq_true_eq]; omega) | decide)) only [w19, e1, nj_cell o1.cell, wb, wk, wnj, wcells, Nat.zero_add, Nat.mul_one, Int.toNat_natCast, idxY_s, Bool.and_self, Nat.reduceAdd, Nat.reduceMul, Nat.reduceSub, Nat.reduceLeDiff, and_self, true_and, Bool.not_true, Bool.not_false, if_true, decide_true, Option.bind_some]
    exact ⟨k1.grown g1 (Nat.le_refl _), by simpa using o1⟩
end Go.Proofs.YtlcfkeigipkhlaaGreatDoorAbs
