/- Numbers bit by bit: the document's answer for wide numbers. -/
import Derived.Test.YtlcfkeigipkhlaaGreatDoorW2
import Derived.Test.YtlcfkeigipkhlaaGreatDoorWide
import Derived.Test.YtlcfkeigipkhlaaGreatDoorA2
set_option linter.unusedVariables false
set_option linter.unusedSimpArgs false
namespace Go.Proofs.YtlcfkeigipkhlaaGreatDoorAbs
open Go Go.Proofs
set_option maxRecDepth 10000
/-- A number's i-th bit. -/
def bit (w : Int) (i : Nat) : Int := w / 2 ^ i % 2
def bts (f : Nat → Int) : List AV := (List.range 128).map fun i => .int .i64 (f i)
theorem bts_len (f : Nat → Int) : (bts f).length = 128 := by simp [bts]
theorem bts_all (f : Nat → Int) : (bts f).all AV.cell = true := by
  simp [bts, AV.cell]
theorem bts_get (f : Nat → Int) {k : Nat} (h : k < 128) : (bts f)[k]? = some (.int .i64 (f k)) := by
  simp [bts, h]
theorem bts_set (f : Nat → Int) (k : Nat) (x : Int) : (bts f).set k (.int .i64 x) = bts fun i => if i = k then x else f i := by
  apply List.ext_getElem?
  intro i
  by_cases hi : i < 128
  · by_cases hk : k = i
    · subst hk
      rw [List.getElem?_set_self (by simpa [bts_len] using hi), bts_get _ hi]
      simp
    · rw [List.getElem?_set_ne hk, bts_get _ hi, bts_get _ hi]
      simp [Ne.symm hk]
  · rw [List.getElem?_eq_none (by simp [bts_len]; omega), List.getElem?_eq_none (by simp [bts_len]; omega)]
theorem bts_zero : List.replicate 128 (AV.int .i64 0) = bts fun _ => 0 := by
  unfold bts
  rw [List.map_const', List.length_range]
theorem bts_load (f : Nat → Int) : loadN (bts f) 0 128 = some (bts f) := loadN_all (bts_all f) (bts_len f).symm
theorem bts_congr {f g : Nat → Int} (h : ∀ i, i < 128 → f i = g i) : bts f = bts g := by
  unfold bts
  exact List.map_congr_left fun i hi => by rw [h i (by simpa using hi)]
theorem bit_bd (w : Int) (i : Nat) : 0 ≤ bit w i ∧ bit w i ≤ 1 := by unfold bit; omega
/-- What is carried into the k-th place. -/
def car (a b : Int) (k : Nat) : Int := (a % 2 ^ k + b % 2 ^ k) / 2 ^ k
theorem pow_pos' (k : Nat) : (0 : Int) < 2 ^ k := Int.pow_pos (by omega)
theorem mod_succ (a : Int) (k : Nat) : a % 2 ^ (k + 1) = a % 2 ^ k + 2 ^ k * bit a k := by
  unfold bit
  have h1 := Int.emod_add_mul_ediv a (2 ^ k)
  have h2 := Int.emod_add_mul_ediv (a / 2 ^ k) 2
  have h3 := Int.emod_add_mul_ediv a (2 ^ (k + 1))
  have h4 : a / 2 ^ (k + 1) = a / 2 ^ k / 2 := by rw [Int.pow_succ, Int.ediv_ediv_of_nonneg (Int.le_of_lt (pow_pos' k))]
  rw [h4] at h3
  have h5 : (2 : Int) ^ (k + 1) * (a / 2 ^ k / 2) = 2 ^ k * (2 * (a / 2 ^ k / 2)) := by rw [Int.pow_succ, Int.mul_assoc]
  have h6 : (2 : Int) ^ k * (a / 2 ^ k) = 2 ^ k * (a / 2 ^ k % 2) + 2 ^ k * (2 * (a / 2 ^ k / 2)) := by rw [← Int.mul_add, h2]
  omega
theorem car_zero (a b : Int) : car a b 0 = 0 := by simp [car, Int.emod_one]
theorem car_succ (a b : Int) (k : Nat) : car a b (k + 1) = (bit a k + bit b k + car a b k) / 2 := by
  unfold car
  rw [mod_succ, mod_succ, Int.pow_succ, ← Int.ediv_ediv_of_nonneg (Int.le_of_lt (pow_pos' k))]
  congr 1
  have : a % 2 ^ k + 2 ^ k * bit a k + (b % 2 ^ k + 2 ^ k * bit b k) = (a % 2 ^ k + b % 2 ^ k) + 2 ^ k * (bit a k + bit b k) := by rw [Int.mul_add]; omega
  rw [this, Int.add_mul_ediv_left _ _ (by have := pow_pos' k; omega)]
  omega
theorem car_bd (a b : Int) (k : Nat) : 0 ≤ car a b k ∧ car a b k ≤ 1 := by
  unfold car
  have hp := pow_pos' k
  have h1 := Int.emod_nonneg a (show (2 : Int) ^ k ≠ 0 by omega)
  have h2 := Int.emod_nonneg b (show (2 : Int) ^ k ≠ 0 by omega)
  have h3 := Int.emod_lt_of_pos a hp
  have h4 := Int.emod_lt_of_pos b hp
  refine ⟨Int.ediv_nonneg (by omega) (by omega), ?_⟩
  have : (a % 2 ^ k + b % 2 ^ k) / 2 ^ k < 2 := Int.ediv_lt_of_lt_mul hp (by omega)
  omega
theorem bit_add (a b : Int) (k : Nat) : bit (a + b) k = (bit a k + bit b k + car a b k) % 2 := by
  have hp := pow_pos' k
  have : (a + b) / 2 ^ k = a / 2 ^ k + b / 2 ^ k + car a b k := by
    have h1 := Int.emod_add_mul_ediv a (2 ^ k)
    have h2 := Int.emod_add_mul_ediv b (2 ^ k)
    have h3 : a + b = (a % 2 ^ k + b % 2 ^ k) + 2 ^ k * (a / 2 ^ k + b / 2 ^ k) := by rw [Int.mul_add]; omega
    rw [h3, Int.add_mul_ediv_left _ _ (by omega)]
    unfold car
    omega
  unfold bit
  rw [this]
  omega
/-- The first k bits of a sum. -/
def sumB (w : Int) (k : Nat) (j : Nat) : Int := if j < k then bit w j else 0
def C56 (L : Lib) : Prop := ∀ (a b : Int) (H : Heap), Spec Tryz.prog L 1 56 [.agg (bts (bit a)), .agg (bts (bit b))] H fun v H' => v = .agg (bts (bit (a + b))) ∧ Grown H H'
theorem p56 {L : Lib} (u : Use L 56 a56_0) : C56 L := by
  intro a b H n hn
  rw [ent56 _ _ _ _ _ u.1 u.2]
  simp (disch := (first | (simp only [bts_all, bts_zero, wcells, wk, Bool.and_self]; done) | (simp only [nx_alloc, nx_set]; done) | (simp only [nx_alloc, nx_set]; omega) | omega | (rw [decide_eq_true_eq]; omega) | decide)) only [w56, bts_all, bts_zero, wb, wk, wnj, wcells, Nat.zero_add, Nat.mul_one, Int.toNat_natCast, idxY_s, Bool.and_self, Nat.reduceAdd, Nat.reduceMul, Nat.reduceSub, Nat.reduceLeDiff, and_self, true_and, Bool.not_true, Bool.not_false, if_true, decide_true, Option.bind_some]
  with_reducible
    refine loop_ind (S := Nat) (fun k => rg 29 [(2, .ptr H.next 0), (3, .ptr (H.next + 1) 0), (4, .ptr (H.next + 1 + 1) 0), (5, .ptr (H.next + 1 + 1 + 1) 0), (6, .int .i64 (car a b k)), (7, .int .i64 (k : Int))])
      (fun k H' => k ≤ 128 ∧ Grown H H' ∧ H'.get H.next = some (.row (bts (bit a)) .new 36) ∧ H'.get (H.next + 1) = some (.row (bts (bit b)) .new 36) ∧ H'.get (H.next + 1 + 1) = some (.row (bts fun _ => 0) .new 36) ∧ H'.get (H.next + 1 + 1 + 1) = some (.row (bts (sumB (a + b) k)) .new 36))
      (fun k => 128 - k) ?_ _ _ 0 _ ?_ ?_ ?_
  · intro m k H1 hI hm ih
    obtain ⟨hk, hg, h2, h3, h4, h5⟩ := hI
    by_cases hlt : k < 128
    · have e1 : decide ((k : Int) < 128) = true := by simp; omega
      have b1 := bit_bd a k
      have b2 := bit_bd b k
      have b3 := car_bd a b k
      have e3 : IntKind.i64.wrap (bit a k + bit b k) = bit a k + bit b k := by rw [wr_i64]; omega
      have e4 : IntKind.i64.wrap (bit a k + bit b k + car a b k) = bit a k + bit b k + car a b k := by rw [wr_i64]; omega
      have e5 : (bit a k + bit b k + car a b k).tmod 2 = bit (a + b) k := by rw [Int.tmod_eq_emod_of_nonneg (by omega), bit_add]
      have e6 : IntKind.i64.wrap ((bit a k + bit b k + car a b k).tdiv 2) = car a b (k + 1) := by rw [Int.tdiv_eq_ediv_of_nonneg (by omega), wr_i64, car_succ]; omega
      have e7 : IntKind.i64.wrap ((k : Int) + 1) = ((k + 1 : Nat) : Int) := by rw [wr_i64]; omega
      have e8 : splice (bts (sumB (a + b) k)) k [AV.int .i64 (bit (a + b) k)] = bts (sumB (a + b) (k + 1)) := by
        rw [splice_one (by rw [bts_len]; omega), bts_set]
        refine bts_congr fun i hi => ?_
        unfold sumB
        by_cases h1 : i = k
        · subst h1; simp
        · by_cases h2 : i < k
          · rw [if_neg h1, if_pos h2, if_pos (by omega)]
          · rw [if_neg h1, if_neg h2, if_neg (by omega)]
      simp (disch := (first | (simp only [wcells, wk, Bool.and_self]; done) | (simp only [nx_alloc, nx_set]; done) | (simp only [nx_alloc, nx_set]; omega) | omega | (rw [decide_eq_true_eq]; omega) | decide)) only [w56, e1, h2, h3, h5, bts_get, e3, e4, e5, e6, e7, e8, bts_len, wb, wk, wnj, wcells, Nat.zero_add, Nat.mul_one, Int.toNat_natCast, idxY_s, Bool.and_self, Nat.reduceAdd, Nat.reduceMul, Nat.reduceSub, Nat.reduceLeDiff, and_self, true_and, Bool.not_true, Bool.not_false, if_true, decide_true, Option.bind_some]
      with_reducible refine ih _ (k + 1) _ ?_ ?_ ?_
      · simp (disch := (first | (simp only [wcells, wk, Bool.and_self]; done) | (simp only [nx_alloc, nx_set]; done) | (simp only [nx_alloc, nx_set]; omega) | omega | (rw [decide_eq_true_eq]; omega) | decide)) only [wb, wk, wnj, wcells, Nat.zero_add, Nat.mul_one, Int.toNat_natCast, idxY_s, Bool.and_self, Nat.reduceAdd, Nat.reduceMul, Nat.reduceSub, Nat.reduceLeDiff, and_self, true_and, Bool.not_true, Bool.not_false, if_true, decide_true, Option.bind_some]
      · refine ⟨by omega, by (repeat (first | exact Grown.refl _ | assumption | refine Grown.alloc ?_ _ | refine Grown.set ?_ (by first | omega | (simp only [nx_alloc, nx_set]; omega)) _)), ?_, ?_, ?_, ?_⟩
        all_goals simp (disch := (first | (simp only [wcells, wk, Bool.and_self]; done) | (simp only [nx_alloc, nx_set]; done) | (simp only [nx_alloc, nx_set]; omega) | omega | (rw [decide_eq_true_eq]; omega) | decide)) only [h2, h3, h4, wb, wk, wnj, wcells, Nat.zero_add, Nat.mul_one, Int.toNat_natCast, idxY_s, Bool.and_self, Nat.reduceAdd, Nat.reduceMul, Nat.reduceSub, Nat.reduceLeDiff, and_self, true_and, Bool.not_true, Bool.not_false, if_true, decide_true, Option.bind_some]
      · omega
    · obtain rfl : k = 128 := by omega
      have e1 : decide (((128 : Nat) : Int) < 128) = false := by decide
      have e2 : loadN (bts (sumB (a + b) 128)) 0 128 = some (bts (bit (a + b))) := by
        rw [bts_load]
        exact congrArg some (bts_congr fun i hi => by simp [sumB, hi])
      simp (disch := (first | (simp only [bts_all, bts_len, wcells, wk, Bool.and_self]; done) | (simp only [nx_alloc, nx_set]; done) | (simp only [nx_alloc, nx_set]; omega) | omega | (rw [decide_eq_true_eq]; omega) | decide)) only [w56, e1, h2, h3, h5, h4, bts_get, e2, bts_load, splice_all, bts_all, bts_len, wb, wk, wnj, wcells, Nat.zero_add, Nat.mul_one, Int.toNat_natCast, idxY_s, Bool.and_self, Nat.reduceAdd, Nat.reduceMul, Nat.reduceSub, Nat.reduceLeDiff, and_self, true_and, Bool.not_true, Bool.not_false, if_true, decide_true, Option.bind_some]
      (repeat (first | exact Grown.refl _ | assumption | refine Grown.alloc ?_ _ | refine Grown.set ?_ (by first | omega | (simp only [nx_alloc, nx_set]; omega)) _))
  · simp (disch := (first | (simp only [wcells, wk, Bool.and_self]; done) | (simp only [nx_alloc, nx_set]; done) | (simp only [nx_alloc, nx_set]; omega) | omega | (rw [decide_eq_true_eq]; omega) | decide)) only [car_zero, wb, wk, wnj, wcells, Nat.zero_add, Nat.mul_one, Int.toNat_natCast, idxY_s, Bool.and_self, Nat.reduceAdd, Nat.reduceMul, Nat.reduceSub, Nat.reduceLeDiff, and_self, true_and, Bool.not_true, Bool.not_false, if_true, decide_true, Option.bind_some]
    rfl
  · refine ⟨by omega, by (repeat (first | exact Grown.refl _ | assumption | refine Grown.alloc ?_ _ | refine Grown.set ?_ (by first | omega | (simp only [nx_alloc, nx_set]; omega)) _)), ?_, ?_, ?_, ?_⟩
    all_goals simp (disch := (first | (simp only [wcells, wk, Bool.and_self]; done) | (simp only [nx_alloc, nx_set]; done) | (simp only [nx_alloc, nx_set]; omega) | omega | (rw [decide_eq_true_eq]; omega) | decide)) only [wb, wk, wnj, wcells, Nat.zero_add, Nat.mul_one, Int.toNat_natCast, idxY_s, Bool.and_self, Nat.reduceAdd, Nat.reduceMul, Nat.reduceSub, Nat.reduceLeDiff, and_self, true_and, Bool.not_true, Bool.not_false, if_true, decide_true, Option.bind_some]
    rfl
  · unfold LIM at hn; omega
theorem bit_lo (h l : Int) {i : Nat} (hi : i < 64) : bit (h * 18446744073709551616 + l) i = bit l i := by
  unfold bit
  have e : (18446744073709551616 : Int) = 2 ^ i * (2 * 2 ^ (63 - i)) := by
    rw [← Int.pow_succ', ← Int.pow_add, show i + (63 - i + 1) = 64 by omega]; rfl
  have e2 : h * 18446744073709551616 + l = l + 2 ^ i * (h * (2 * 2 ^ (63 - i))) := by
    conv => lhs; rw [e]
    rw [Int.add_comm, Int.mul_left_comm]
  rw [e2, Int.add_mul_ediv_left _ _ (by have := pow_pos' i; omega)]
  have : h * (2 * 2 ^ (63 - i)) = 2 * (h * 2 ^ (63 - i)) := by rw [Int.mul_left_comm]
  omega
theorem bit_hi (w : Int) (i : Nat) : bit w (64 + i) = bit (w / 18446744073709551616) i := by
  unfold bit
  rw [Int.pow_add, ← Int.ediv_ediv_of_nonneg (by omega)]
  rfl
theorem bit_wrap (w : Int) {i : Nat} (hi : i < 64) : bit (w % 18446744073709551616) i = bit w i := by
  have := bit_lo (w / 18446744073709551616) (w % 18446744073709551616) hi
  rw [← this, Int.mul_comm, Int.add_comm, Int.emod_add_mul_ediv]
/-- The first k bits of both halves. -/
def halfB (w : Int) (k : Nat) (j : Nat) : Int := if j < k ∨ (64 ≤ j ∧ j < 64 + k) then bit w j else 0
def C57 (L : Lib) : Prop := ∀ (h l : Int), 0 ≤ l → l < 18446744073709551616 → ∀ H : Heap, Spec Tryz.prog L 1 57 [.int .i64 h, .int .u64 l] H fun v H' => v = .agg (bts (bit (h * 18446744073709551616 + l))) ∧ Grown H H'
theorem p57 {L : Lib} (u : Use L 57 a57_0) : C57 L := by
  intro h l h1 h2 H n hn
  rw [ent57 _ _ _ _ _ u.1 u.2]
  simp (disch := (first | (simp only [bts_all, bts_zero, wcells, wk, Bool.and_self]; done) | (simp only [nx_alloc, nx_set]; done) | (simp only [nx_alloc, nx_set]; omega) | omega | (rw [decide_eq_true_eq]; omega) | decide)) only [w57, bts_all, bts_zero, wb, wk, wnj, wcells, Nat.zero_add, Nat.mul_one, Int.toNat_natCast, idxY_s, Bool.and_self, Nat.reduceAdd, Nat.reduceMul, Nat.reduceSub, Nat.reduceLeDiff, and_self, true_and, Bool.not_true, Bool.not_false, if_true, decide_true, Option.bind_some]
  with_reducible
    refine loop_ind (S := Nat) (fun k => rg 28 [(0, .int .i64 h), (1, .int .u64 l), (4, .ptr H.next 0), (5, .ptr (H.next + 1) 0), (6, .int .i64 (k : Int))])
      (fun k H' => k ≤ 64 ∧ Grown H H' ∧ H'.get H.next = some (.row (bts fun _ => 0) .new 36) ∧ H'.get (H.next + 1) = some (.row (bts (halfB (h * 18446744073709551616 + l) k)) .new 36))
      (fun k => 64 - k) ?_ _ _ 0 _ ?_ ?_ ?_
  · intro m k H1 hI hm ih
    obtain ⟨hk, hg, h4, h5⟩ := hI
    by_cases hlt : k < 64
    · have e1 : decide ((k : Int) < 64) = true := by simp; omega
      have e7 : IntKind.i64.wrap ((k : Int) + 1) = ((k + 1 : Nat) : Int) := by rw [wr_i64]; omega
      have e0 : (64 : Int) + (k : Int) = ((64 + k : Nat) : Int) := by omega
      have e8 : IntKind.i64.wrap ((64 + k : Nat) : Int) = ((64 + k : Nat) : Int) := by rw [wr_i64]; omega
      have em : min k IntKind.u64.bits = k := by have : IntKind.u64.bits = 64 := rfl; omega
      have b1 : IntKind.i64.wrap ((l.fdiv (2 ^ k)).tmod 2) = bit (h * 18446744073709551616 + l) k := by
        have hp := pow_pos' k
        have hn : 0 ≤ l / 2 ^ k := Int.ediv_nonneg h1 (by omega)
        rw [Int.fdiv_eq_ediv_of_nonneg _ (by omega), Int.tmod_eq_emod_of_nonneg hn, bit_lo _ _ hlt, wr_i64]
        unfold bit
        omega
      have b2 : IntKind.i64.wrap (((IntKind.u64.wrap h).fdiv (2 ^ k)).tmod 2) = bit (h * 18446744073709551616 + l) (64 + k) := by
        have hp := pow_pos' k
        have hn : 0 ≤ IntKind.u64.wrap h := by rw [wr_u64]; omega
        have hn2 : 0 ≤ IntKind.u64.wrap h / 2 ^ k := Int.ediv_nonneg hn (by omega)
        rw [Int.fdiv_eq_ediv_of_nonneg _ (by omega), Int.tmod_eq_emod_of_nonneg hn2, bit_hi, wr_i64, show (h * 18446744073709551616 + l) / 18446744073709551616 = h by omega, ← bit_wrap h hlt, wr_u64]
        unfold bit
        omega
      have e9 : splice (splice (bts (halfB (h * 18446744073709551616 + l) k)) k [AV.int .i64 (bit (h * 18446744073709551616 + l) k)]) (64 + k) [AV.int .i64 (bit (h * 18446744073709551616 + l) (64 + k))] = bts (halfB (h * 18446744073709551616 + l) (k + 1)) := by
        rw [splice_one (cs := bts _) (by rw [bts_len]; omega), bts_set, splice_one (by rw [bts_len]; omega), bts_set]
        refine bts_congr fun i hi => ?_
        unfold halfB
        by_cases g1 : i = 64 + k
        · rw [if_pos g1, if_pos (by omega), g1]
        · rw [if_neg g1]
          by_cases g2 : i = k
          · rw [if_pos g2, if_pos (by omega), g2]
          · rw [if_neg g2]
            by_cases g3 : i < k ∨ (64 ≤ i ∧ i < 64 + k)
            · rw [if_pos g3, if_pos (by omega)]
            · rw [if_neg g3, if_neg (by omega)]
      have e10 : (splice (bts (halfB (h * 18446744073709551616 + l) k)) k [AV.int .i64 (bit (h * 18446744073709551616 + l) k)]).length = 128 := by
        rw [splice_one (by rw [bts_len]; omega), bts_set, bts_len]
      simp (disch := (first | (simp only [wcells, wk, Bool.and_self]; done) | (simp only [nx_alloc, nx_set]; done) | (simp only [nx_alloc, nx_set]; omega) | omega | (rw [decide_eq_true_eq]; omega) | decide)) only [w57, e1, h4, h5, e7, e0, e8, em, b1, b2, bts_len, e10, e9, wb, wk, wnj, wcells, Nat.zero_add, Nat.mul_one, Int.toNat_natCast, idxY_s, Bool.and_self, Nat.reduceAdd, Nat.reduceMul, Nat.reduceSub, Nat.reduceLeDiff, and_self, true_and, Bool.not_true, Bool.not_false, if_true, decide_true, Option.bind_some]
      with_reducible refine ih _ (k + 1) _ ?_ ?_ ?_
      · simp (disch := (first | (simp only [wcells, wk, Bool.and_self]; done) | (simp only [nx_alloc, nx_set]; done) | (simp only [nx_alloc, nx_set]; omega) | omega | (rw [decide_eq_true_eq]; omega) | decide)) only [wb, wk, wnj, wcells, Nat.zero_add, Nat.mul_one, Int.toNat_natCast, idxY_s, Bool.and_self, Nat.reduceAdd, Nat.reduceMul, Nat.reduceSub, Nat.reduceLeDiff, and_self, true_and, Bool.not_true, Bool.not_false, if_true, decide_true, Option.bind_some]
      · refine ⟨by omega, by (repeat (first | exact Grown.refl _ | assumption | refine Grown.alloc ?_ _ | refine Grown.set ?_ (by first | omega | (simp only [nx_alloc, nx_set]; omega)) _)), ?_, ?_⟩
        all_goals simp (disch := (first | (simp only [wcells, wk, Bool.and_self]; done) | (simp only [nx_alloc, nx_set]; done) | (simp only [nx_alloc, nx_set]; omega) | omega | (rw [decide_eq_true_eq]; omega) | decide)) only [h4, wb, wk, wnj, wcells, Nat.zero_add, Nat.mul_one, Int.toNat_natCast, idxY_s, Bool.and_self, Nat.reduceAdd, Nat.reduceMul, Nat.reduceSub, Nat.reduceLeDiff, and_self, true_and, Bool.not_true, Bool.not_false, if_true, decide_true, Option.bind_some]
      · omega
    · obtain rfl : k = 64 := by omega
      have e1 : decide (((64 : Nat) : Int) < 64) = false := by decide
      have e2 : bts (halfB (h * 18446744073709551616 + l) 64) = bts (bit (h * 18446744073709551616 + l)) := bts_congr fun i hi => by unfold halfB; rw [if_pos (by omega)]
      simp (disch := (first | (simp only [bts_all, bts_len, wcells, wk, Bool.and_self]; done) | (simp only [nx_alloc, nx_set]; done) | (simp only [nx_alloc, nx_set]; omega) | omega | (rw [decide_eq_true_eq]; omega) | decide)) only [w57, e1, h5, h4, e2, bts_load, splice_all, bts_all, bts_len, wb, wk, wnj, wcells, Nat.zero_add, Nat.mul_one, Int.toNat_natCast, idxY_s, Bool.and_self, Nat.reduceAdd, Nat.reduceMul, Nat.reduceSub, Nat.reduceLeDiff, and_self, true_and, Bool.not_true, Bool.not_false, if_true, decide_true, Option.bind_some]
      (repeat (first | exact Grown.refl _ | assumption | refine Grown.alloc ?_ _ | refine Grown.set ?_ (by first | omega | (simp only [nx_alloc, nx_set]; omega)) _))
  · simp (disch := (first | (simp only [wcells, wk, Bool.and_self]; done) | (simp only [nx_alloc, nx_set]; done) | (simp only [nx_alloc, nx_set]; omega) | omega | (rw [decide_eq_true_eq]; omega) | decide)) only [wb, wk, wnj, wcells, Nat.zero_add, Nat.mul_one, Int.toNat_natCast, idxY_s, Bool.and_self, Nat.reduceAdd, Nat.reduceMul, Nat.reduceSub, Nat.reduceLeDiff, and_self, true_and, Bool.not_true, Bool.not_false, if_true, decide_true, Option.bind_some]
    rfl
  · refine ⟨by omega, by (repeat (first | exact Grown.refl _ | assumption | refine Grown.alloc ?_ _ | refine Grown.set ?_ (by first | omega | (simp only [nx_alloc, nx_set]; omega)) _)), ?_, ?_⟩
    all_goals simp (disch := (first | (simp only [wcells, wk, Bool.and_self]; done) | (simp only [nx_alloc, nx_set]; done) | (simp only [nx_alloc, nx_set]; omega) | omega | (rw [decide_eq_true_eq]; omega) | decide)) only [wb, wk, wnj, wcells, Nat.zero_add, Nat.mul_one, Int.toNat_natCast, idxY_s, Bool.and_self, Nat.reduceAdd, Nat.reduceMul, Nat.reduceSub, Nat.reduceLeDiff, and_self, true_and, Bool.not_true, Bool.not_false, if_true, decide_true, Option.bind_some]
    congr 2
  · unfold LIM at hn; omega
theorem pow_le' {k n : Nat} (h : k ≤ n) : (2 : Int) ^ k ≤ 2 ^ n := by
  have h1 : (2 : Int) ^ n = 2 ^ k * 2 ^ (n - k) := by rw [← Int.pow_add, show k + (n - k) = n by omega]
  have h2 := pow_pos' k
  have h3 := pow_pos' (n - k)
  rw [h1]
  have := Int.mul_le_mul_of_nonneg_left (show (1 : Int) ≤ 2 ^ (n - k) by omega) (Int.le_of_lt h2)
  omega
/-- The lower k bits. -/
theorem shl_in {x : Int} {k : Nat} (h0 : 0 ≤ x) (h1 : x ≤ 1) (hk : k < 64) : 0 ≤ x * 2 ^ k ∧ x * 2 ^ k < 18446744073709551616 := by
  have hp := pow_pos' k
  have h2 : (2 : Int) ^ k ≤ 2 ^ 63 := pow_le' (by omega)
  have : (2 : Int) ^ 63 = 9223372036854775808 := by decide
  rcases (show x = 0 ∨ x = 1 by omega) with rfl | rfl <;> omega
theorem mod_lt64 (a : Int) {k : Nat} (hk : k ≤ 64) : 0 ≤ a % 2 ^ k ∧ a % 2 ^ k < 18446744073709551616 := by
  have hp := pow_pos' k
  have h2 : (2 : Int) ^ k ≤ 2 ^ 64 := pow_le' hk
  have : (2 : Int) ^ 64 = 18446744073709551616 := by decide
  have h3 := Int.emod_nonneg a (show (2 : Int) ^ k ≠ 0 by omega)
  have h4 := Int.emod_lt_of_pos a hp
  omega
def C22 (L : Lib) : Prop := ∀ (w : Int) (H : Heap), Spec Tryz.prog L 1 22 [.agg (bts (bit w))] H fun v H' => v = .tup [.int .i64 (IntKind.i64.wrap (w / 18446744073709551616)), .int .u64 (w % 18446744073709551616)] ∧ Grown H H'
theorem p22 {L : Lib} (u : Use L 22 a22_0) : C22 L := by
  intro w H n hn
  rw [ent22 _ _ _ _ u.1 u.2]
  simp (disch := (first | (simp only [bts_all, bts_zero, wcells, wk, Bool.and_self]; done) | (simp only [nx_alloc, nx_set]; done) | (simp only [nx_alloc, nx_set]; omega) | omega | (rw [decide_eq_true_eq]; omega) | decide)) only [w22, bts_all, bts_zero, wb, wk, wnj, wcells, Nat.zero_add, Nat.mul_one, Int.toNat_natCast, idxY_s, Bool.and_self, Nat.reduceAdd, Nat.reduceMul, Nat.reduceSub, Nat.reduceLeDiff, and_self, true_and, Bool.not_true, Bool.not_false, if_true, decide_true, Option.bind_some]
  with_reducible
    refine loop_ind (S := Nat) (fun k => rg 31 [(1, .ptr H.next 0), (4, .int .u64 (w / 18446744073709551616 % 2 ^ k)), (5, .int .u64 (w % 2 ^ k)), (6, .int .i64 (k : Int))])
      (fun k H' => k ≤ 64 ∧ Grown H H' ∧ H'.get H.next = some (.row (bts (bit w)) .new 36))
      (fun k => 64 - k) ?_ _ _ 0 _ ?_ ?_ ?_
  · intro m k H1 hI hm ih
    obtain ⟨hk, hg, h4⟩ := hI
    by_cases hlt : k < 64
    · have e1 : decide ((k : Int) < 64) = true := by simp; omega
      have e7 : IntKind.i64.wrap ((k : Int) + 1) = ((k + 1 : Nat) : Int) := by rw [wr_i64]; omega
      have e0 : (64 : Int) + (k : Int) = ((64 + k : Nat) : Int) := by omega
      have e8 : IntKind.i64.wrap ((64 + k : Nat) : Int) = ((64 + k : Nat) : Int) := by rw [wr_i64]; omega
      have em : min k IntKind.u64.bits = k := by have : IntKind.u64.bits = 64 := rfl; omega
      have key : ∀ a : Int, IntKind.u64.wrap (a % 2 ^ k + IntKind.u64.wrap (IntKind.u64.wrap (bit a k) * 2 ^ k)) = a % 2 ^ (k + 1) := by
        intro a
        have b1 := bit_bd a k
        have b2 := shl_in b1.1 b1.2 hlt
        have b3 := mod_lt64 a (show k + 1 ≤ 64 by omega)
        have e : IntKind.u64.wrap (bit a k) = bit a k := by rw [wr_u64]; omega
        have e' : IntKind.u64.wrap (bit a k * 2 ^ k) = bit a k * 2 ^ k := by rw [wr_u64]; omega
        rw [e, e', Int.mul_comm, ← mod_succ, wr_u64]
        omega
      have k1 := key w
      have k2 := key (w / 18446744073709551616)
      have e9 : bit w (64 + k) = bit (w / 18446744073709551616) k := bit_hi w k
      simp (disch := (first | (simp only [wcells, wk, Bool.and_self]; done) | (simp only [nx_alloc, nx_set]; done) | (simp only [nx_alloc, nx_set]; omega) | omega | (rw [decide_eq_true_eq]; omega) | decide)) only [w22, e1, h4, e7, e0, e8, em, bts_get, e9, k1, k2, wb, wk, wnj, wcells, Nat.zero_add, Nat.mul_one, Int.toNat_natCast, idxY_s, Bool.and_self, Nat.reduceAdd, Nat.reduceMul, Nat.reduceSub, Nat.reduceLeDiff, and_self, true_and, Bool.not_true, Bool.not_false, if_true, decide_true, Option.bind_some]
      with_reducible refine ih _ (k + 1) _ ?_ ?_ ?_
      · simp (disch := (first | (simp only [wcells, wk, Bool.and_self]; done) | (simp only [nx_alloc, nx_set]; done) | (simp only [nx_alloc, nx_set]; omega) | omega | (rw [decide_eq_true_eq]; omega) | decide)) only [wb, wk, wnj, wcells, Nat.zero_add, Nat.mul_one, Int.toNat_natCast, idxY_s, Bool.and_self, Nat.reduceAdd, Nat.reduceMul, Nat.reduceSub, Nat.reduceLeDiff, and_self, true_and, Bool.not_true, Bool.not_false, if_true, decide_true, Option.bind_some]
      · exact ⟨by omega, by (repeat (first | exact Grown.refl _ | assumption | refine Grown.alloc ?_ _ | refine Grown.set ?_ (by first | omega | (simp only [nx_alloc, nx_set]; omega)) _)), h4⟩
      · omega
    · obtain rfl : k = 64 := by omega
      have e1 : decide (((64 : Nat) : Int) < 64) = false := by decide
      simp (disch := (first | (simp only [wcells, wk, Bool.and_self]; done) | (simp only [nx_alloc, nx_set]; done) | (simp only [nx_alloc, nx_set]; omega) | omega | (rw [decide_eq_true_eq]; omega) | decide)) only [w22, e1, wb, wk, wnj, wcells, Nat.zero_add, Nat.mul_one, Int.toNat_natCast, idxY_s, Bool.and_self, Nat.reduceAdd, Nat.reduceMul, Nat.reduceSub, Nat.reduceLeDiff, and_self, true_and, Bool.not_true, Bool.not_false, if_true, decide_true, Option.bind_some]
      refine ⟨?_, by (repeat (first | exact Grown.refl _ | assumption | refine Grown.alloc ?_ _ | refine Grown.set ?_ (by first | omega | (simp only [nx_alloc, nx_set]; omega)) _))⟩
      have : (2 : Int) ^ 64 = 18446744073709551616 := by decide
      rw [this, wr_i64, wr_i64]
      congr 3
      omega
  · simp (disch := (first | (simp only [wcells, wk, Bool.and_self]; done) | (simp only [nx_alloc, nx_set]; done) | (simp only [nx_alloc, nx_set]; omega) | omega | (rw [decide_eq_true_eq]; omega) | decide)) only [wb, wk, wnj, wcells, Nat.zero_add, Nat.mul_one, Int.toNat_natCast, idxY_s, Bool.and_self, Nat.reduceAdd, Nat.reduceMul, Nat.reduceSub, Nat.reduceLeDiff, and_self, true_and, Bool.not_true, Bool.not_false, if_true, decide_true, Option.bind_some]
    simp [Int.emod_one]
  · refine ⟨by omega, by (repeat (first | exact Grown.refl _ | assumption | refine Grown.alloc ?_ _ | refine Grown.set ?_ (by first | omega | (simp only [nx_alloc, nx_set]; omega)) _)), ?_⟩
    all_goals simp (disch := (first | (simp only [wcells, wk, Bool.and_self]; done) | (simp only [nx_alloc, nx_set]; done) | (simp only [nx_alloc, nx_set]; omega) | omega | (rw [decide_eq_true_eq]; omega) | decide)) only [wb, wk, wnj, wcells, Nat.zero_add, Nat.mul_one, Int.toNat_natCast, idxY_s, Bool.and_self, Nat.reduceAdd, Nat.reduceMul, Nat.reduceSub, Nat.reduceLeDiff, and_self, true_and, Bool.not_true, Bool.not_false, if_true, decide_true, Option.bind_some]
  · unfold LIM at hn; omega
end Go.Proofs.YtlcfkeigipkhlaaGreatDoorAbs
