/- Lines, and of each entity their sum. -/
import Derived.Test.YtlcfkeigipkhlaaGreatDoorBits
import Derived.Test.YtlcfkeigipkhlaaGreatDoorF1
set_option linter.unusedVariables false
set_option linter.unusedSimpArgs false
namespace Go.Proofs.YtlcfkeigipkhlaaGreatDoorAbs
open Go Go.Proofs
set_option maxRecDepth 10000
structure Ln where
  acc : Int
  ent : Int
  cnt : Int
  amt : Int
def encLn (l : Ln) : List AV := [.int .u32 l.acc, .int .u16 l.ent, .int .u16 l.cnt, .int .i64 l.amt]
structure Ln.ok (l : Ln) : Prop where
  acc : 0 ≤ l.acc ∧ l.acc ≤ 4294967295
  ent : 0 ≤ l.ent ∧ l.ent ≤ 65535
  cnt : 0 ≤ l.cnt ∧ l.cnt ≤ 65535
  amt : -9223372036854775808 ≤ l.amt ∧ l.amt ≤ 9223372036854775807
def addTo (m : List (Int × Int)) (l : Ln) : List (Int × Int) := put m l.ent ((gt m l.ent).getD 0 + l.amt)
def sumsL (ls : List Ln) : List (Int × Int) := ls.foldl addTo []
theorem sumsL_take (ls : List Ln) {k : Nat} (h : k < ls.length) : sumsL (ls.take (k + 1)) = addTo (sumsL (ls.take k)) ls[k] := by
  unfold sumsL
  rw [List.take_succ_eq_append_getElem h, List.foldl_append]
  rfl
theorem put_len {α : Type} {k : Int} {v : α} : ∀ {m : List (Int × α)}, (put m k v).length ≤ m.length + 1
  | [] => by simp [put]
  | (a, u) :: l => by
    unfold put
    by_cases h : a = k
    · rw [if_pos h]; simp
    · rw [if_neg h]
      have := put_len (k := k) (v := v) (m := l)
      simp only [List.length_cons]; omega
theorem sumsL_len (ls : List Ln) : (sumsL ls).length ≤ ls.length := by
  unfold sumsL
  have : ∀ (l : List Ln) (m : List (Int × Int)), (l.foldl addTo m).length ≤ m.length + l.length := by
    intro l
    induction l with
    | nil => exact fun m => Nat.le_refl _
    | cons a l ih =>
      intro m
      have h1 := ih (addTo m a)
      have h2 : (addTo m a).length ≤ m.length + 1 := put_len
      simp only [List.foldl_cons, List.length_cons]; omega
  simpa using this ls []
theorem sumsL_nodup (ls : List Ln) : ((sumsL ls).map (·.1)).Nodup := by
  unfold sumsL
  have : ∀ (l : List Ln) (m : List (Int × Int)), (m.map (·.1)).Nodup → ((l.foldl addTo m).map (·.1)).Nodup := by
    intro l
    induction l with
    | nil => exact fun m h => h
    | cons a l ih => exact fun m h => ih _ (put_nodup h)
  exact this ls [] (by simp)
theorem wd_zero : wd 0 = .agg [.int .i64 0, .int .u64 0] := rfl
theorem wd_agg (w : Int) : wd w = .agg [.int .i64 (IntKind.i64.wrap (w / 18446744073709551616)), .int .u64 (w % 18446744073709551616)] := rfl
theorem nj_wd (w : Int) : nj (wd w) = some (wd w) := rfl
theorem cells_wd (w : Int) : (wd w).cells = [.int .i64 (IntKind.i64.wrap (w / 18446744073709551616)), .int .u64 (w % 18446744073709551616)] := rfl
/-- Lines that a slice reads as. -/
structure Lns (H : Heap) (v : AV) (ls : List Ln) : Prop where
  rd : Rd H v 4 (ls.map encLn)
  ok : ∀ l ∈ ls, l.ok
theorem Lns.mono {H H' : Heap} {v : AV} {ls : List Ln} (h : Lns H v ls) (g : Grown H H') : Lns H' v ls := ⟨h.rd.mono g, h.ok⟩
def C20 (L : Lib) : Prop := ∀ (d : Int) (v : AV) (ls : List Ln) (H : Heap), Lns H v ls → ls.length ≤ 1152921504606846976 →
  Spec Tryz.prog L 2 20 [.agg [.int .i32 d, v]] H fun r H' => Grown H H' ∧ ∃ id, r = .mp (some id) ∧ H.next ≤ id ∧ id < H'.next ∧ H'.get id = some (.map (esK .u16 wd (sumsL ls)))
theorem p20 {L : Lib} (u : Use L 20 a20_0) (h54 : C54 L) (h55 : C55 L) : C20 L := by
  intro d v ls H hvo hlen n hn
  obtain ⟨hv, hok⟩ := hvo
  rw [ent20 _ _ _ _ u.1 u.2]
  have hvc := hv.cell
  have hnv := nj_cell hvc
  have hln : (ls.map encLn).length = ls.length := List.length_map ..
  simp (disch := (first | (simp only [hvc, wcells, wk, Bool.and_self]; done) | (simp only [nx_alloc, nx_set]; done) | (simp only [nx_alloc, nx_set]; omega) | omega | (rw [decide_eq_true_eq]; omega) | decide)) only [w20, hv.len, hnv, hln, hvc, wb, wk, wnj, wcells, Nat.zero_add, Nat.mul_one, Int.toNat_natCast, idxY_s, Bool.and_self, Nat.reduceAdd, Nat.reduceMul, Nat.reduceSub, Nat.reduceLeDiff, and_self, true_and, Bool.not_true, Bool.not_false, if_true, decide_true, Option.bind_some]
  with_reducible
    refine loop_ind (S := Nat) (fun k => rg 27 [(3, .mp (some (H.next + 1))), (8, v), (9, .int .i64 (ls.length : Int)), (10, .int .i64 (k : Int))])
      (fun k H' => k ≤ ls.length ∧ Grown H H' ∧ H.next + 1 < H'.next ∧ H'.get (H.next + 1) = some (.map (esK .u16 wd (sumsL (ls.take k)))))
      (fun k => ls.length - k) ?_ _ _ 0 _ ?_ ?_ ?_
  · intro m k H1 hI hm ih
    obtain ⟨hk, hg, hx, h4⟩ := hI
    by_cases hlt : k < ls.length
    · have e1 : decide ((k : Int) < (ls.length : Int)) = true := by simp; omega
      have e7 : IntKind.i64.wrap ((k : Int) + 1) = ((k + 1 : Nat) : Int) := by rw [wr_i64]; omega
      obtain ⟨p, p1, p2, p3⟩ := (hv.mono hg).el (by omega) (k := k) (by rw [hln]; exact hlt)
      have e2 : (ls.map encLn)[k]'(by rw [hln]; exact hlt) = encLn ls[k] := List.getElem_map ..
      rw [e2] at p3
      have hl := hok _ (List.getElem_mem hlt)
      have ez : ((gt (sumsL (ls.take k)) ls[k].ent).map wd).getD (.agg [.int .i64 0, .int .u64 0]) = wd ((gt (sumsL (ls.take k)) ls[k].ent).getD 0) := by cases gt (sumsL (ls.take k)) ls[k].ent <;> rfl
      simp (disch := (first | (simp only [hvc, wcells, wk, Bool.and_self]; done) | (simp only [nx_alloc, nx_set]; done) | (simp only [nx_alloc, nx_set]; omega) | omega | (rw [decide_eq_true_eq]; omega) | decide)) only [w20, wm, lok29, upd29, lda26, e1, hnv, p2, p3, encLn, h4, lkV_es, ez, nj_wd, hvc, wb, wk, wnj, wcells, Nat.zero_add, Nat.mul_one, Int.toNat_natCast, idxY_s, Bool.and_self, Nat.reduceAdd, Nat.reduceMul, Nat.reduceSub, Nat.reduceLeDiff, and_self, true_and, Bool.not_true, Bool.not_false, if_true, decide_true, Option.bind_some]
      refine (h55 _ hl.amt.1 hl.amt.2 _).use hn (by omega) ?_
      rintro _ H2 ⟨rfl, g2⟩
      have n2 := g2.next
      simp only [nx_alloc, nx_set] at n2
      simp (disch := (first | (simp only [hvc, wcells, wk, Bool.and_self]; done) | (simp only [nx_alloc, nx_set]; done) | (simp only [nx_alloc, nx_set]; omega) | omega | (rw [decide_eq_true_eq]; omega) | decide)) only [w20, wm, lok29, upd29, lda26, e1, hnv, p2, p3, encLn, g2.get, h4, lkV_es, ez, nj_wd, hvc, wb, wk, wnj, wcells, Nat.zero_add, Nat.mul_one, Int.toNat_natCast, idxY_s, Bool.and_self, Nat.reduceAdd, Nat.reduceMul, Nat.reduceSub, Nat.reduceLeDiff, and_self, true_and, Bool.not_true, Bool.not_false, if_true, decide_true, Option.bind_some]
      refine (h54 _ _ _).use hn (by omega) ?_
      rintro _ H3 ⟨rfl, g3⟩
      have n3 := g3.next
      simp (disch := (first | (simp only [hvc, wcells, wk, Bool.and_self]; done) | (simp only [nx_alloc, nx_set]; done) | (simp only [nx_alloc, nx_set]; omega) | omega | (rw [decide_eq_true_eq]; omega) | decide)) only [w20, wm, lok29, upd29, lda26, e1, e7, hnv, encLn, g3.get, g2.get, h4, upd_es, nj_wd, hvc, wb, wk, wnj, wcells, Nat.zero_add, Nat.mul_one, Int.toNat_natCast, idxY_s, Bool.and_self, Nat.reduceAdd, Nat.reduceMul, Nat.reduceSub, Nat.reduceLeDiff, and_self, true_and, Bool.not_true, Bool.not_false, if_true, decide_true, Option.bind_some]
      with_reducible refine ih _ (k + 1) _ ?_ ?_ ?_
      · simp (disch := (first | (simp only [wcells, wk, Bool.and_self]; done) | (simp only [nx_alloc, nx_set]; done) | (simp only [nx_alloc, nx_set]; omega) | omega | (rw [decide_eq_true_eq]; omega) | decide)) only [wb, wk, wnj, wcells, Nat.zero_add, Nat.mul_one, Int.toNat_natCast, idxY_s, Bool.and_self, Nat.reduceAdd, Nat.reduceMul, Nat.reduceSub, Nat.reduceLeDiff, and_self, true_and, Bool.not_true, Bool.not_false, if_true, decide_true, Option.bind_some]
      · refine ⟨by omega, ?_, ?_, ?_⟩
        · refine Grown.set (Grown.trans (Grown.trans hg ?_) (g2.trans g3)) (by omega) _
          (repeat (first | exact Grown.refl _ | assumption | refine Grown.alloc ?_ _ | refine Grown.set ?_ (by first | omega | (simp only [nx_alloc, nx_set]; omega)) _))
        · simp (disch := (first | (simp only [wcells, wk, Bool.and_self]; done) | (simp only [nx_alloc, nx_set]; done) | (simp only [nx_alloc, nx_set]; omega) | omega | (rw [decide_eq_true_eq]; omega) | decide)) only [wb, wk, wnj, wcells, Nat.zero_add, Nat.mul_one, Int.toNat_natCast, idxY_s, Bool.and_self, Nat.reduceAdd, Nat.reduceMul, Nat.reduceSub, Nat.reduceLeDiff, and_self, true_and, Bool.not_true, Bool.not_false, if_true, decide_true, Option.bind_some]
          omega
        · simp (disch := (first | (simp only [wcells, wk, Bool.and_self]; done) | (simp only [nx_alloc, nx_set]; done) | (simp only [nx_alloc, nx_set]; omega) | omega | (rw [decide_eq_true_eq]; omega) | decide)) only [wb, wk, wnj, wcells, Nat.zero_add, Nat.mul_one, Int.toNat_natCast, idxY_s, Bool.and_self, Nat.reduceAdd, Nat.reduceMul, Nat.reduceSub, Nat.reduceLeDiff, and_self, true_and, Bool.not_true, Bool.not_false, if_true, decide_true, Option.bind_some]
          rw [sumsL_take ls hlt]
          rfl
      · omega
    · obtain rfl : k = ls.length := by omega
      have e1 : decide ((ls.length : Int) < (ls.length : Int)) = false := by simp
      simp (disch := (first | (simp only [hvc, wcells, wk, Bool.and_self]; done) | (simp only [nx_alloc, nx_set]; done) | (simp only [nx_alloc, nx_set]; omega) | omega | (rw [decide_eq_true_eq]; omega) | decide)) only [w20, e1, hvc, wb, wk, wnj, wcells, Nat.zero_add, Nat.mul_one, Int.toNat_natCast, idxY_s, Bool.and_self, Nat.reduceAdd, Nat.reduceMul, Nat.reduceSub, Nat.reduceLeDiff, and_self, true_and, Bool.not_true, Bool.not_false, if_true, decide_true, Option.bind_some]
      refine ⟨hg, H.next + 1, rfl, by omega, hx, ?_⟩
      rw [h4, List.take_length]
  · simp (disch := (first | (simp only [wcells, wk, Bool.and_self]; done) | (simp only [nx_alloc, nx_set]; done) | (simp only [nx_alloc, nx_set]; omega) | omega | (rw [decide_eq_true_eq]; omega) | decide)) only [wb, wk, wnj, wcells, Nat.zero_add, Nat.mul_one, Int.toNat_natCast, idxY_s, Bool.and_self, Nat.reduceAdd, Nat.reduceMul, Nat.reduceSub, Nat.reduceLeDiff, and_self, true_and, Bool.not_true, Bool.not_false, if_true, decide_true, Option.bind_some]
    rfl
  · refine ⟨by omega, by (repeat (first | exact Grown.refl _ | assumption | refine Grown.alloc ?_ _ | refine Grown.set ?_ (by first | omega | (simp only [nx_alloc, nx_set]; omega)) _)), ?_, ?_⟩
    all_goals simp (disch := (first | (simp only [wcells, wk, Bool.and_self]; done) | (simp only [nx_alloc, nx_set]; done) | (simp only [nx_alloc, nx_set]; omega) | omega | (rw [decide_eq_true_eq]; omega) | decide)) only [wb, wk, wnj, wcells, Nat.zero_add, Nat.mul_one, Int.toNat_natCast, idxY_s, Bool.and_self, Nat.reduceAdd, Nat.reduceMul, Nat.reduceSub, Nat.reduceLeDiff, and_self, true_and, Bool.not_true, Bool.not_false, if_true, decide_true, Option.bind_some]
    · omega
    · rfl
  · unfold LIM at hn; omega
/-- A number's bits, as the document's answer has them. -/
def bw (w : Int) : AV := .agg (bts (bit w))
theorem nj_bw (w : Int) : nj (bw w) = some (bw w) := rfl
theorem bw_zero : bw 0 = .agg (List.replicate 128 (.int .i64 0)) := by
  rw [bts_zero]
  exact congrArg AV.agg (bts_congr fun i _ => by simp [bit])
def C21 (L : Lib) : Prop := ∀ (v : AV) (ls : List Ln) (H : Heap), Lns H v ls → ls.length ≤ 1152921504606846976 →
  Spec Tryz.prog L 2 21 [v] H fun r H' => Grown H H' ∧ ∃ id, r = .mp (some id) ∧ H.next ≤ id ∧ id < H'.next ∧ H'.get id = some (.map (esK .u16 bw (sumsL ls)))
theorem p21 {L : Lib} (u : Use L 21 a21_0) (h56 : C56 L) (h57 : C57 L) : C21 L := by
  intro v ls H hvo hlen n hn
  obtain ⟨hv, hok⟩ := hvo
  rw [ent21 _ _ _ _ u.1 u.2]
  have hvc := hv.cell
  have hnv := nj_cell hvc
  have hln : (ls.map encLn).length = ls.length := List.length_map ..
  simp (disch := (first | (simp only [hvc, wcells, wk, Bool.and_self]; done) | (simp only [nx_alloc, nx_set]; done) | (simp only [nx_alloc, nx_set]; omega) | omega | (rw [decide_eq_true_eq]; omega) | decide)) only [w21, hv.len, hnv, hln, hvc, wb, wk, wnj, wcells, Nat.zero_add, Nat.mul_one, Int.toNat_natCast, idxY_s, Bool.and_self, Nat.reduceAdd, Nat.reduceMul, Nat.reduceSub, Nat.reduceLeDiff, and_self, true_and, Bool.not_true, Bool.not_false, if_true, decide_true, Option.bind_some]
  with_reducible
    refine loop_ind (S := Nat) (fun k => rg 30 [(3, .mp (some H.next)), (7, v), (8, .int .i64 (ls.length : Int)), (9, .int .i64 (k : Int))])
      (fun k H' => k ≤ ls.length ∧ Grown H H' ∧ H.next < H'.next ∧ H'.get H.next = some (.map (esK .u16 bw (sumsL (ls.take k)))))
      (fun k => ls.length - k) ?_ _ _ 0 _ ?_ ?_ ?_
  · intro m k H1 hI hm ih
    obtain ⟨hk, hg, hx, h4⟩ := hI
    by_cases hlt : k < ls.length
    · have e1 : decide ((k : Int) < (ls.length : Int)) = true := by simp; omega
      have e7 : IntKind.i64.wrap ((k : Int) + 1) = ((k + 1 : Nat) : Int) := by rw [wr_i64]; omega
      obtain ⟨p, p1, p2, p3⟩ := (hv.mono hg).el (by omega) (k := k) (by rw [hln]; exact hlt)
      have e2 : (ls.map encLn)[k]'(by rw [hln]; exact hlt) = encLn ls[k] := List.getElem_map ..
      rw [e2] at p3
      have hl := hok _ (List.getElem_mem hlt)
      have ez : ((gt (sumsL (ls.take k)) ls[k].ent).map bw).getD (.agg (List.replicate 128 (.int .i64 0))) = bw ((gt (sumsL (ls.take k)) ls[k].ent).getD 0) := by
        rw [← bw_zero]
        cases gt (sumsL (ls.take k)) ls[k].ent <;> rfl
      simp (disch := (first | (simp only [hvc, wcells, wk, Bool.and_self]; done) | (simp only [nx_alloc, nx_set]; done) | (simp only [nx_alloc, nx_set]; omega) | omega | (rw [decide_eq_true_eq]; omega) | decide)) only [w21, wm, lok34, upd34, lda26, lda2, e1, hnv, p2, p3, encLn, h4, lkV_es, ez, nj_bw, hvc, wb, wk, wnj, wcells, Nat.zero_add, Nat.mul_one, Int.toNat_natCast, idxY_s, Bool.and_self, Nat.reduceAdd, Nat.reduceMul, Nat.reduceSub, Nat.reduceLeDiff, and_self, true_and, Bool.not_true, Bool.not_false, if_true, decide_true, Option.bind_some]
      refine (h57 _ _ (by rw [wr_u64]; omega) (by rw [wr_u64]; omega) _).use hn (by omega) ?_
      have ew : ls[k].amt.fdiv (2 ^ min (Int.toNat 63) IntKind.i64.bits) * 18446744073709551616 + IntKind.u64.wrap ls[k].amt = ls[k].amt := by
        have e : (2 : Int) ^ min (Int.toNat 63) IntKind.i64.bits = 9223372036854775808 := by decide
        have := hl.amt
        rw [e, Int.fdiv_eq_ediv_of_nonneg _ (by omega), wr_u64]
        omega
      rintro _ H2 ⟨rfl, g2⟩
      rw [ew]
      have n2 := g2.next
      simp only [nx_alloc, nx_set] at n2
      simp (disch := (first | (simp only [hvc, wcells, wk, Bool.and_self]; done) | (simp only [nx_alloc, nx_set]; done) | (simp only [nx_alloc, nx_set]; omega) | omega | (rw [decide_eq_true_eq]; omega) | decide)) only [w21, wm, lok34, upd34, lda26, lda2, e1, hnv, p2, p3, encLn, g2.get, h4, lkV_es, ez, nj_bw, hvc, wb, wk, wnj, wcells, Nat.zero_add, Nat.mul_one, Int.toNat_natCast, idxY_s, Bool.and_self, Nat.reduceAdd, Nat.reduceMul, Nat.reduceSub, Nat.reduceLeDiff, and_self, true_and, Bool.not_true, Bool.not_false, if_true, decide_true, Option.bind_some]
      refine (h56 _ _ _).use hn (by omega) ?_
      rintro _ H3 ⟨rfl, g3⟩
      have n3 := g3.next
      have eb : ∀ s, AV.agg (bts (bit s)) = bw s := fun _ => rfl
      simp (disch := (first | (simp only [hvc, wcells, wk, Bool.and_self]; done) | (simp only [nx_alloc, nx_set]; done) | (simp only [nx_alloc, nx_set]; omega) | omega | (rw [decide_eq_true_eq]; omega) | decide)) only [w21, wm, lok34, upd34, lda26, lda2, e1, e7, hnv, encLn, g3.get, g2.get, h4, eb, upd_es, nj_bw, hvc, wb, wk, wnj, wcells, Nat.zero_add, Nat.mul_one, Int.toNat_natCast, idxY_s, Bool.and_self, Nat.reduceAdd, Nat.reduceMul, Nat.reduceSub, Nat.reduceLeDiff, and_self, true_and, Bool.not_true, Bool.not_false, if_true, decide_true, Option.bind_some]
      with_reducible refine ih _ (k + 1) _ ?_ ?_ ?_
      · simp (disch := (first | (simp only [wcells, wk, Bool.and_self]; done) | (simp only [nx_alloc, nx_set]; done) | (simp only [nx_alloc, nx_set]; omega) | omega | (rw [decide_eq_true_eq]; omega) | decide)) only [wb, wk, wnj, wcells, Nat.zero_add, Nat.mul_one, Int.toNat_natCast, idxY_s, Bool.and_self, Nat.reduceAdd, Nat.reduceMul, Nat.reduceSub, Nat.reduceLeDiff, and_self, true_and, Bool.not_true, Bool.not_false, if_true, decide_true, Option.bind_some]
      · refine ⟨by omega, ?_, ?_, ?_⟩
        · refine Grown.set (Grown.trans (Grown.trans hg ?_) (g2.trans g3)) (by omega) _
          (repeat (first | exact Grown.refl _ | assumption | refine Grown.alloc ?_ _ | refine Grown.set ?_ (by first | omega | (simp only [nx_alloc, nx_set]; omega)) _))
        · simp (disch := (first | (simp only [wcells, wk, Bool.and_self]; done) | (simp only [nx_alloc, nx_set]; done) | (simp only [nx_alloc, nx_set]; omega) | omega | (rw [decide_eq_true_eq]; omega) | decide)) only [wb, wk, wnj, wcells, Nat.zero_add, Nat.mul_one, Int.toNat_natCast, idxY_s, Bool.and_self, Nat.reduceAdd, Nat.reduceMul, Nat.reduceSub, Nat.reduceLeDiff, and_self, true_and, Bool.not_true, Bool.not_false, if_true, decide_true, Option.bind_some]
          omega
        · simp (disch := (first | (simp only [wcells, wk, Bool.and_self]; done) | (simp only [nx_alloc, nx_set]; done) | (simp only [nx_alloc, nx_set]; omega) | omega | (rw [decide_eq_true_eq]; omega) | decide)) only [wb, wk, wnj, wcells, Nat.zero_add, Nat.mul_one, Int.toNat_natCast, idxY_s, Bool.and_self, Nat.reduceAdd, Nat.reduceMul, Nat.reduceSub, Nat.reduceLeDiff, and_self, true_and, Bool.not_true, Bool.not_false, if_true, decide_true, Option.bind_some]
          rw [sumsL_take ls hlt]
          rfl
      · omega
    · obtain rfl : k = ls.length := by omega
      have e1 : decide ((ls.length : Int) < (ls.length : Int)) = false := by simp
      simp (disch := (first | (simp only [hvc, wcells, wk, Bool.and_self]; done) | (simp only [nx_alloc, nx_set]; done) | (simp only [nx_alloc, nx_set]; omega) | omega | (rw [decide_eq_true_eq]; omega) | decide)) only [w21, e1, hvc, wb, wk, wnj, wcells, Nat.zero_add, Nat.mul_one, Int.toNat_natCast, idxY_s, Bool.and_self, Nat.reduceAdd, Nat.reduceMul, Nat.reduceSub, Nat.reduceLeDiff, and_self, true_and, Bool.not_true, Bool.not_false, if_true, decide_true, Option.bind_some]
      refine ⟨hg, H.next, rfl, by omega, hx, ?_⟩
      rw [h4, List.take_length]
  · simp (disch := (first | (simp only [wcells, wk, Bool.and_self]; done) | (simp only [nx_alloc, nx_set]; done) | (simp only [nx_alloc, nx_set]; omega) | omega | (rw [decide_eq_true_eq]; omega) | decide)) only [wb, wk, wnj, wcells, Nat.zero_add, Nat.mul_one, Int.toNat_natCast, idxY_s, Bool.and_self, Nat.reduceAdd, Nat.reduceMul, Nat.reduceSub, Nat.reduceLeDiff, and_self, true_and, Bool.not_true, Bool.not_false, if_true, decide_true, Option.bind_some]
    rfl
  · refine ⟨by omega, by (repeat (first | exact Grown.refl _ | assumption | refine Grown.alloc ?_ _ | refine Grown.set ?_ (by first | omega | (simp only [nx_alloc, nx_set]; omega)) _)), ?_, ?_⟩
    all_goals simp (disch := (first | (simp only [wcells, wk, Bool.and_self]; done) | (simp only [nx_alloc, nx_set]; done) | (simp only [nx_alloc, nx_set]; omega) | omega | (rw [decide_eq_true_eq]; omega) | decide)) only [wb, wk, wnj, wcells, Nat.zero_add, Nat.mul_one, Int.toNat_natCast, idxY_s, Bool.and_self, Nat.reduceAdd, Nat.reduceMul, Nat.reduceSub, Nat.reduceLeDiff, and_self, true_and, Bool.not_true, Bool.not_false, if_true, decide_true, Option.bind_some]
    · omega
    · rfl
  · unfold LIM at hn; omega
end Go.Proofs.YtlcfkeigipkhlaaGreatDoorAbs
