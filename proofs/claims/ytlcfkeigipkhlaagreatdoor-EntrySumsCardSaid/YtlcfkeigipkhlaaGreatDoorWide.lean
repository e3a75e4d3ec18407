/- Wide numbers: 128 bits in two halves. -/
import Derived.Test.YtlcfkeigipkhlaaGreatDoorW2
import Derived.Test.YtlcfkeigipkhlaaGreatDoorA4
set_option linter.unusedVariables false
set_option linter.unusedSimpArgs false
namespace Go.Proofs.YtlcfkeigipkhlaaGreatDoorAbs
open Go Go.Proofs
set_option maxRecDepth 10000
/-- A whole number's two halves. -/
def wd (w : Int) : AV := .agg [.int .i64 (IntKind.i64.wrap (w / 18446744073709551616)), .int .u64 (w % 18446744073709551616)]
theorem agg2 {k k' : IntKind} {a a' b b' : Int} (h : a = a') (g : b = b') : AV.agg [.int k a, .int k' b] = .agg [.int k a', .int k' b'] := by rw [h, g]
theorem wd_hi (a b : Int) : IntKind.i64.wrap (IntKind.u64.wrap (IntKind.u64.wrap (IntKind.i64.wrap (a / 18446744073709551616)) + IntKind.u64.wrap (IntKind.i64.wrap (b / 18446744073709551616)))) = IntKind.i64.wrap (a / 18446744073709551616 + b / 18446744073709551616) := by
  simp only [wwr]
  omega
theorem wd_hi1 (a b : Int) : IntKind.i64.wrap (IntKind.u64.wrap (IntKind.u64.wrap (IntKind.u64.wrap (IntKind.i64.wrap (a / 18446744073709551616)) + IntKind.u64.wrap (IntKind.i64.wrap (b / 18446744073709551616))) + 1)) = IntKind.i64.wrap (a / 18446744073709551616 + b / 18446744073709551616 + 1) := by
  simp only [wwr]
  omega
def C54 (L : Lib) : Prop := ∀ (a b : Int) (H : Heap), Spec Tryz.prog L 1 54 [wd a, wd b] H fun v H' => v = wd (a + b) ∧ Grown H H'
theorem p54 {L : Lib} (u : Use L 54 a54_0) : C54 L := by
  intro a b H n hn
  unfold wd
  rw [ent54 _ _ _ _ _ u.1 u.2]
  simp (disch := (first | (simp only [wcells, wk, Bool.and_self]; done) | (simp only [nx_alloc, nx_set]; done) | (simp only [nx_alloc, nx_set]; omega) | omega | (rw [decide_eq_true_eq]; omega) | decide)) only [w54, wb, wk, wnj, wcells, Nat.zero_add, Nat.mul_one, Int.toNat_natCast, idxY_s, Bool.and_self, Nat.reduceAdd, Nat.reduceMul, Nat.reduceSub, Nat.reduceLeDiff, and_self, true_and, Bool.not_true, Bool.not_false, if_true, decide_true, Option.bind_some]
  refine br_dec (fun h => ?_) (fun h => ?_)
  all_goals simp (disch := (first | (simp only [wcells, wk, Bool.and_self]; done) | (simp only [nx_alloc, nx_set]; done) | (simp only [nx_alloc, nx_set]; omega) | omega | (rw [decide_eq_true_eq]; omega) | decide)) only [w54, wb, wk, wnj, wcells, Nat.zero_add, Nat.mul_one, Int.toNat_natCast, idxY_s, Bool.and_self, Nat.reduceAdd, Nat.reduceMul, Nat.reduceSub, Nat.reduceLeDiff, and_self, true_and, Bool.not_true, Bool.not_false, if_true, decide_true, Option.bind_some]
  · refine ⟨?_, by (repeat (first | exact Grown.refl _ | assumption | refine Grown.alloc ?_ _ | refine Grown.set ?_ (by first | omega | (simp only [nx_alloc, nx_set]; omega)) _))⟩
    rw [wd_hi1]
    simp only [wwr] at h ⊢
    refine agg2 ?_ ?_ <;> omega
  · refine ⟨?_, by (repeat (first | exact Grown.refl _ | assumption | refine Grown.alloc ?_ _ | refine Grown.set ?_ (by first | omega | (simp only [nx_alloc, nx_set]; omega)) _))⟩
    rw [wd_hi]
    simp only [wwr] at h ⊢
    refine agg2 ?_ ?_ <;> omega
def C55 (L : Lib) : Prop := ∀ (a : Int), -9223372036854775808 ≤ a → a ≤ 9223372036854775807 → ∀ H : Heap, Spec Tryz.prog L 1 55 [.int .i64 a] H fun v H' => v = wd a ∧ Grown H H'
theorem p55 {L : Lib} (u : Use L 55 a55_0) : C55 L := by
  intro a h1 h2 H n hn
  unfold wd
  rw [ent55 _ _ _ _ u.1 u.2]
  simp (disch := (first | (simp only [wcells, wk, Bool.and_self]; done) | (simp only [nx_alloc, nx_set]; done) | (simp only [nx_alloc, nx_set]; omega) | omega | (rw [decide_eq_true_eq]; omega) | decide)) only [w55, wb, wk, wnj, wcells, Nat.zero_add, Nat.mul_one, Int.toNat_natCast, idxY_s, Bool.and_self, Nat.reduceAdd, Nat.reduceMul, Nat.reduceSub, Nat.reduceLeDiff, and_self, true_and, Bool.not_true, Bool.not_false, if_true, decide_true, Option.bind_some]
  refine ⟨?_, by (repeat (first | exact Grown.refl _ | assumption | refine Grown.alloc ?_ _ | refine Grown.set ?_ (by first | omega | (simp only [nx_alloc, nx_set]; omega)) _))⟩
  have e : (2 : Int) ^ min (Int.toNat 63) IntKind.i64.bits = 9223372036854775808 := by decide
  rw [e, Int.fdiv_eq_ediv_of_nonneg _ (by omega)]
  simp only [wwr]
  refine agg2 ?_ ?_ <;> omega
end Go.Proofs.YtlcfkeigipkhlaaGreatDoorAbs
