/- EntrySums. -/
import Derived.Test.YtlcfkeigipkhlaaGreatDoorClone
import Derived.Test.YtlcfkeigipkhlaaGreatDoorAwake
import Derived.Test.YtlcfkeigipkhlaaGreatDoorA1
set_option linter.unusedVariables false
set_option linter.unusedSimpArgs false
namespace Go.Proofs.YtlcfkeigipkhlaaGreatDoorAbs
open Go Go.Proofs
set_option maxRecDepth 10000
/-- A line, its entity by few numbers. -/
def fewL (few : Bool) (q : Int) (l : Ln) : Ln := if few then { l with ent := l.ent % q } else l
def stepL (few : Bool) (q : Int) (ls : List Ln) (k : Nat) : List Ln := (ls.take k).map (fewL few q) ++ ls.drop k
theorem stepL_len {few : Bool} {q : Int} {ls : List Ln} {k : Nat} : (stepL few q ls k).length = ls.length := by
  simp [stepL]; omega
theorem stepL_get {few : Bool} {q : Int} {ls : List Ln} {k : Nat} (h : k < ls.length) : (stepL few q ls k)[k]'(by rw [stepL_len]; exact h) = ls[k] := by
  simp only [stepL]
  rw [List.getElem_append_right (by simp; omega)]
  simp
  congr 1
  rw [Nat.min_eq_left (Nat.le_of_lt h)]
  omega
theorem stepL_succ {few : Bool} {q : Int} {ls : List Ln} {k : Nat} (h : k < ls.length) : stepL few q ls (k + 1) = (stepL few q ls k).set k (fewL few q ls[k]) := by
  simp only [stepL]
  rw [List.take_succ_eq_append_getElem h, List.map_append, List.drop_eq_getElem_cons h]
  rw [List.set_append_right _ _ (by simp; omega)]
  simp
  rw [show k - min k ls.length = 0 by omega, List.drop_eq_getElem_cons h]
  rfl
theorem stepL_all {few : Bool} {q : Int} {ls : List Ln} : stepL few q ls ls.length = ls.map (fewL few q) := by simp [stepL]
theorem enc_cells {ls : List Ln} : ∀ c ∈ ls.map encLn, c.length = 4 ∧ c.all AV.cell = true := by
  intro c hc
  obtain ⟨l, _, rfl⟩ := List.mem_map.1 hc
  exact ⟨rfl, rfl⟩
theorem fewL_ok {few : Bool} {q : Int} (hq : 0 < q ∧ q ≤ 65536) {l : Ln} (h : l.ok) : (fewL few q l).ok := by
  unfold fewL
  split
  · exact ⟨h.acc, ⟨Int.emod_nonneg _ (by omega), by have := Int.emod_lt_of_pos l.ent hq.1; show l.ent % q ≤ 65535; omega⟩, h.cnt, h.amt⟩
  · exact h
def C3 (L : Lib) : Prop := ∀ (v : AV) (few : Bool) (ls : List Ln) (H : Heap), H.gl = glT → Lns H v ls → Spec Tryz.prog L 4 3 [v, .bool few] H fun r H' => r = .bool true ∧ Grown H H'
theorem p3 {L : Lib} (u : Use L 3 a3_0) (h18 : Yes L 18) (h19 : C19 L) (h20 : C20 L) (h21 : C21 L) (h22 : C22 L) : C3 L := by
  intro v few ls H hgl hv n hn
  have hvc := hv.rd.cell
  have hnv := nj_cell hvc
  have hln : (ls.map encLn).length = ls.length := List.length_map ..
  rw [ent3 _ _ _ _ _ u.1 u.2]
  simp (disch := (first | (simp only [wcells, wk, Bool.and_self]; done) | (simp only [nx_alloc, nx_set]; done) | (simp only [nx_alloc, nx_set]; omega) | omega | (rw [decide_eq_true_eq]; omega) | decide)) only [w3, hnv, wb, wk, wnj, wcells, Nat.zero_add, Nat.mul_one, Int.toNat_natCast, idxY_s, Bool.and_self, Nat.reduceAdd, Nat.reduceMul, Nat.reduceSub, Nat.reduceLeDiff, and_self, true_and, Bool.not_true, Bool.not_false, if_true, decide_true, Option.bind_some]
  refine (h18 _ hgl).use hn (by omega) ?_
  rintro _ _ ⟨rfl, rfl⟩
  simp (disch := (first | (simp only [wcells, wk, Bool.and_self]; done) | (simp only [nx_alloc, nx_set]; done) | (simp only [nx_alloc, nx_set]; omega) | omega | (rw [decide_eq_true_eq]; omega) | decide)) only [w3, hnv, hv.rd.len, hln, wb, wk, wnj, wcells, Nat.zero_add, Nat.mul_one, Int.toNat_natCast, idxY_s, Bool.and_self, Nat.reduceAdd, Nat.reduceMul, Nat.reduceSub, Nat.reduceLeDiff, and_self, true_and, Bool.not_true, Bool.not_false, if_true, decide_true, Option.bind_some]
  refine br_dec (fun h => ?_) (fun h => ?_)
  · simp (disch := (first | (simp only [wcells, wk, Bool.and_self]; done) | (simp only [nx_alloc, nx_set]; done) | (simp only [nx_alloc, nx_set]; omega) | omega | (rw [decide_eq_true_eq]; omega) | decide)) only [w3, wb, wk, wnj, wcells, Nat.zero_add, Nat.mul_one, Int.toNat_natCast, idxY_s, Bool.and_self, Nat.reduceAdd, Nat.reduceMul, Nat.reduceSub, Nat.reduceLeDiff, and_self, true_and, Bool.not_true, Bool.not_false, if_true, decide_true, Option.bind_some]
    exact Grown.refl _
  simp (disch := (first | (simp only [wcells, wk, Bool.and_self]; done) | (simp only [nx_alloc, nx_set]; done) | (simp only [nx_alloc, nx_set]; omega) | omega | (rw [decide_eq_true_eq]; omega) | decide)) only [w3, hnv, wb, wk, wnj, wcells, Nat.zero_add, Nat.mul_one, Int.toNat_natCast, idxY_s, Bool.and_self, Nat.reduceAdd, Nat.reduceMul, Nat.reduceSub, Nat.reduceLeDiff, and_self, true_and, Bool.not_true, Bool.not_false, if_true, decide_true, Option.bind_some]
  refine (h19 _ _ _ hv.rd (by rw [hln]; omega)).use hn (by omega) ?_
  rintro v1 H1 ⟨g1, o1⟩
  have ho1 := nj_cell o1.cell
  have hc1 := o1.cell
  simp (disch := (first | (simp only [hc1, wcells, wk, Bool.and_self]; done) | (simp only [nx_alloc, nx_set]; done) | (simp only [nx_alloc, nx_set]; omega) | omega | (rw [decide_eq_true_eq]; omega) | decide)) only [w3, ho1, o1.rd.len, hln, hc1, wb, wk, wnj, wcells, Nat.zero_add, Nat.mul_one, Int.toNat_natCast, idxY_s, Bool.and_self, Nat.reduceAdd, Nat.reduceMul, Nat.reduceSub, Nat.reduceLeDiff, and_self, true_and, Bool.not_true, Bool.not_false, if_true, decide_true, Option.bind_some]
  with_reducible
    refine loop_ind (S := Nat) (fun k => rg 70 [(0, v1), (1, .bool few), (20, .int .i64 (ls.length : Int)), (21, .int .i64 (k : Int))])
      (fun k H' => k ≤ ls.length ∧ Grown H H' ∧ Own H.next H' v1 4 28 ((stepL few 3 ls k).map encLn))
      (fun k => ls.length - k) ?_ _ _ 0 _ ?_ ?_ ?_
  · intro m k H2 hI hm ih
    obtain ⟨hk, hg, ho⟩ := hI
    by_cases hlt : k < ls.length
    · have e1 : decide ((k : Int) < (ls.length : Int)) = true := by simp; omega
      have e7 : IntKind.i64.wrap ((k : Int) + 1) = ((k + 1 : Nat) : Int) := by rw [wr_i64]; omega
      have hl := hv.ok _ (List.getElem_mem hlt)
      cases few with
      | false =>
        simp (disch := (first | (simp only [hc1, wcells, wk, Bool.and_self]; done) | (simp only [nx_alloc, nx_set]; done) | (simp only [nx_alloc, nx_set]; omega) | omega | (rw [decide_eq_true_eq]; omega) | decide)) only [w3, ho1, e1, e7, hc1, wb, wk, wnj, wcells, Nat.zero_add, Nat.mul_one, Int.toNat_natCast, idxY_s, Bool.and_self, Nat.reduceAdd, Nat.reduceMul, Nat.reduceSub, Nat.reduceLeDiff, and_self, true_and, Bool.not_true, Bool.not_false, if_true, decide_true, Option.bind_some]
        with_reducible refine ih _ (k + 1) _ ?_ ?_ ?_
        · simp (disch := (first | (simp only [wcells, wk, Bool.and_self]; done) | (simp only [nx_alloc, nx_set]; done) | (simp only [nx_alloc, nx_set]; omega) | omega | (rw [decide_eq_true_eq]; omega) | decide)) only [wb, wk, wnj, wcells, Nat.zero_add, Nat.mul_one, Int.toNat_natCast, idxY_s, Bool.and_self, Nat.reduceAdd, Nat.reduceMul, Nat.reduceSub, Nat.reduceLeDiff, and_self, true_and, Bool.not_true, Bool.not_false, if_true, decide_true, Option.bind_some]
        · refine ⟨by omega, hg, ?_⟩
          have : stepL false 3 ls (k + 1) = stepL false 3 ls k := by
            rw [stepL_succ hlt]
            have := stepL_get (few := false) (q := 3) hlt
            simp only [fewL, Bool.false_eq_true, if_false, ← this, List.set_getElem_self]
          rw [this]
          exact ho
        · omega
      | true =>
        obtain ⟨id, hid, i1, i2, i3⟩ := ho.at_ (by simp [stepL_len]; omega)
        rw [List.length_map, stepL_len] at hid
        subst hid
        have hcl := fun c (hc : c ∈ (stepL true 3 ls k).map encLn) => (enc_cells c hc).1
        have hkl : k < ((stepL true 3 ls k).map encLn).length := by simp [stepL_len]; exact hlt
        have hek : ((stepL true 3 ls k).map encLn)[k] = encLn ls[k] := by rw [List.getElem_map, stepL_get hlt]
        have hfl : (flat ((stepL true 3 ls k).map encLn)).length = ls.length * 4 := by rw [flat_len hcl, List.length_map, stepL_len]
        have hget : (flat ((stepL true 3 ls k).map encLn))[k * 4 + 1]? = some (.int .u16 ls[k].ent) := by
          rw [flat_get hcl hkl (by omega), hek]; rfl
        have hset : splice (flat ((stepL true 3 ls k).map encLn)) (k * 4 + 1) [.int .u16 (ls[k].ent.tmod 3)] = flat ((stepL true 3 ls (k + 1)).map encLn) := by
          rw [splice_one (by rw [hfl]; omega), flat_set hcl hkl (by omega), hek, stepL_succ hlt, List.map_set, Int.tmod_eq_emod_of_nonneg hl.ent.1]
          rfl
        simp (disch := (first | (simp only [hc1, wcells, wk, Bool.and_self]; done) | (simp only [nx_alloc, nx_set]; done) | (simp only [nx_alloc, nx_set]; omega) | omega | (rw [decide_eq_true_eq]; omega) | decide)) only [w3, ho1, e1, e7, idxZ_s, i3, hfl, hget, hset, hc1, wb, wk, wnj, wcells, Nat.zero_add, Nat.mul_one, Int.toNat_natCast, idxY_s, Bool.and_self, Nat.reduceAdd, Nat.reduceMul, Nat.reduceSub, Nat.reduceLeDiff, and_self, true_and, Bool.not_true, Bool.not_false, if_true, decide_true, Option.bind_some]
        with_reducible refine ih _ (k + 1) _ ?_ ?_ ?_
        · simp (disch := (first | (simp only [wcells, wk, Bool.and_self]; done) | (simp only [nx_alloc, nx_set]; done) | (simp only [nx_alloc, nx_set]; omega) | omega | (rw [decide_eq_true_eq]; omega) | decide)) only [wb, wk, wnj, wcells, Nat.zero_add, Nat.mul_one, Int.toNat_natCast, idxY_s, Bool.and_self, Nat.reduceAdd, Nat.reduceMul, Nat.reduceSub, Nat.reduceLeDiff, and_self, true_and, Bool.not_true, Bool.not_false, if_true, decide_true, Option.bind_some]
        · refine ⟨by omega, by (repeat (first | exact Grown.refl _ | assumption | refine Grown.alloc ?_ _ | refine Grown.set ?_ (by first | omega | (simp only [nx_alloc, nx_set]; omega)) _)), ?_⟩
          have := Own.mk_ (lo := H.next) (e := 28) (H := H2.set id (some (.row (flat ((stepL true 3 ls (k + 1)).map encLn)) .no 28))) (id := id) (enc_cells (ls := stepL true 3 ls (k + 1))) i1 (by simpa using i2) get_set_same
          rwa [List.length_map, stepL_len] at this
        · omega
    · obtain rfl : k = ls.length := by omega
      rw [stepL_all] at ho
      generalize hls : ls.map (fewL few 3) = ls2 at ho
      have hlen2 : ls2.length = ls.length := by rw [← hls, List.length_map]
      have hv2 : Lns H2 v1 ls2 := ⟨ho.rd, fun l hl => by
        rw [← hls] at hl
        obtain ⟨l0, h0, rfl⟩ := List.mem_map.1 hl
        exact fewL_ok (q := 3) (by omega) (hv.ok _ h0)⟩
      have e1 : decide ((ls.length : Int) < (ls.length : Int)) = false := by simp
      simp (disch := (first | (simp only [hc1, wcells, wk, Bool.and_self]; done) | (simp only [nx_alloc, nx_set]; done) | (simp only [nx_alloc, nx_set]; omega) | omega | (rw [decide_eq_true_eq]; omega) | decide)) only [w3, ho1, e1, cells_cell hc1, hc1, wb, wk, wnj, wcells, Nat.zero_add, Nat.mul_one, Int.toNat_natCast, idxY_s, Bool.and_self, Nat.reduceAdd, Nat.reduceMul, Nat.reduceSub, Nat.reduceLeDiff, and_self, true_and, Bool.not_true, Bool.not_false, if_true, decide_true, Option.bind_some]
      refine (h20 _ _ _ _ hv2 (by omega)).use hn (by omega) ?_
      rintro _ H3 ⟨g3, i1, rfl, a1, a2, a3⟩
      simp (disch := (first | (simp only [wcells, wk, Bool.and_self]; done) | (simp only [nx_alloc, nx_set]; done) | (simp only [nx_alloc, nx_set]; omega) | omega | (rw [decide_eq_true_eq]; omega) | decide)) only [w3, ho1, wb, wk, wnj, wcells, Nat.zero_add, Nat.mul_one, Int.toNat_natCast, idxY_s, Bool.and_self, Nat.reduceAdd, Nat.reduceMul, Nat.reduceSub, Nat.reduceLeDiff, and_self, true_and, Bool.not_true, Bool.not_false, if_true, decide_true, Option.bind_some]
      refine (h21 _ _ _ (hv2.mono g3) (by omega)).use hn (by omega) ?_
      rintro _ H4 ⟨g4, i2, rfl, b1, b2, b3⟩
      have a4 : H4.get i1 = some (.map (esK .u16 wd (sumsL ls2))) := by rw [g4.get i1 a2]; exact a3
      have n4 := g4.next
      have hnd := sumsL_nodup ls2
      have hml := sumsL_len ls2
      generalize hM : sumsL ls2 = M at *
      simp (disch := (first | (simp only [wcells, wk, Bool.and_self]; done) | (simp only [nx_alloc, nx_set]; done) | (simp only [nx_alloc, nx_set]; omega) | omega | (rw [decide_eq_true_eq]; omega) | decide)) only [w3, rng_s, b3, esK_len, wb, wk, wnj, wcells, Nat.zero_add, Nat.mul_one, Int.toNat_natCast, idxY_s, Bool.and_self, Nat.reduceAdd, Nat.reduceMul, Nat.reduceSub, Nat.reduceLeDiff, and_self, true_and, Bool.not_true, Bool.not_false, if_true, decide_true, Option.bind_some]
      with_reducible
        refine loop_ind (S := List Nat) (fun _ => rg 70 [(6, .mp (some i1)), (7, .mp (some i2)), (40, .ptr H4.next 0)])
          (fun left H' => (∀ j ∈ left, j < M.length) ∧ Grown H H' ∧ H4.next < H'.next ∧ H'.get i1 = some (.map (esK .u16 wd M)) ∧ H'.get i2 = some (.map (esK .u16 bw M)) ∧ ∃ at_, H'.get H4.next = some (.mit (some i2) M.length left at_))
          (fun left => left.length) ?_ _ _ (List.range M.length) _ ?_ ?_ ?_
      · intro m left H5 hI hm ih
        obtain ⟨hj, hg5, hx5, c1, c2, at_, c3⟩ := hI
        cases left with
        | nil =>
          simp (disch := (first | (simp only [wcells, wk, Bool.and_self]; done) | (simp only [nx_alloc, nx_set]; done) | (simp only [nx_alloc, nx_set]; omega) | omega | (rw [decide_eq_true_eq]; omega) | decide)) only [w3, nxt_end c3 c2 esK_len, wb, wk, wnj, wcells, Nat.zero_add, Nat.mul_one, Int.toNat_natCast, idxY_s, Bool.and_self, Nat.reduceAdd, Nat.reduceMul, Nat.reduceSub, Nat.reduceLeDiff, and_self, true_and, Bool.not_true, Bool.not_false, if_true, decide_true, Option.bind_some]
          simp (disch := (first | (simp only [wcells, wk, Bool.and_self]; done) | (simp only [nx_alloc, nx_set]; done) | (simp only [nx_alloc, nx_set]; omega) | omega | (rw [decide_eq_true_eq]; omega) | decide)) only [w3, lenM_s, c1, c2, esK_len, wb, wk, wnj, wcells, Nat.zero_add, Nat.mul_one, Int.toNat_natCast, idxY_s, Bool.and_self, Nat.reduceAdd, Nat.reduceMul, Nat.reduceSub, Nat.reduceLeDiff, and_self, true_and, Bool.not_true, Bool.not_false, if_true, decide_true, Option.bind_some]
          exact hg5
        | cons a left =>
          simp (disch := (first | (simp only [wcells, wk, Bool.and_self]; done) | (simp only [nx_alloc, nx_set]; done) | (simp only [nx_alloc, nx_set]; omega) | omega | (rw [decide_eq_true_eq]; omega) | decide)) only [w3, wb, wk, wnj, wcells, Nat.zero_add, Nat.mul_one, Int.toNat_natCast, idxY_s, Bool.and_self, Nat.reduceAdd, Nat.reduceMul, Nat.reduceSub, Nat.reduceLeDiff, and_self, true_and, Bool.not_true, Bool.not_false, if_true, decide_true, Option.bind_some]
          refine nxt_more c3 c2 esK_len (by simp) hj fun i hi p hp => ?_
          have hjl := hj _ (List.getElem_mem hi)
          generalize hjj : (a :: left)[i] = j at *
          have hp2 := hp
          rw [esK, List.getElem?_map, List.getElem?_eq_getElem hjl] at hp2
          obtain rfl := Option.some.inj hp2
          have c5 : (H5.set H4.next (some (.mit (some i2) M.length ((a :: left).eraseIdx i) j))).get i2 = some (.map (esK .u16 bw M)) := by rw [get_set_ne (by omega)]; exact c2
          have ee := fun f => ent_s (f := f) (get_set_same (H := H5) (n := H4.next) (a := some (.mit (some i2) M.length ((a :: left).eraseIdx i) j))) c5 esK_len hp
          have cb : (bw M[j].2).cells = bts (bit M[j].2) := rfl
          simp (disch := (first | (simp only [cb, bts_all, bts_len, wcells, wk, Bool.and_self]; done) | (simp only [nx_alloc, nx_set]; done) | (simp only [nx_alloc, nx_set]; omega) | omega | (rw [decide_eq_true_eq]; omega) | decide)) only [w3, ee, bts_zero, bts_load, splice_all, nj_bw, cb, bts_all, bts_len, wb, wk, wnj, wcells, Nat.zero_add, Nat.mul_one, Int.toNat_natCast, idxY_s, Bool.and_self, Nat.reduceAdd, Nat.reduceMul, Nat.reduceSub, Nat.reduceLeDiff, and_self, true_and, Bool.not_true, Bool.not_false, if_true, decide_true, Option.bind_some]
          refine (h22 _ _).use hn (by omega) ?_
          rintro _ H6 ⟨rfl, g6⟩
          have n6 := g6.next
          simp only [nx_alloc, nx_set] at n6
          have ez : ((gt M M[j].1).map wd).getD (.agg [.int .i64 0, .int .u64 0]) = .agg [.int .i64 (IntKind.i64.wrap (M[j].2 / 18446744073709551616)), .int .u64 (M[j].2 % 18446744073709551616)] := by
            rw [gt_get hnd hjl]; rfl
          simp (disch := (first | (simp only [wcells, wk, Bool.and_self]; done) | (simp only [nx_alloc, nx_set]; done) | (simp only [nx_alloc, nx_set]; omega) | omega | (rw [decide_eq_true_eq]; omega) | decide)) only [w3, wm, lok29, g6.get, c1, lkV_es, ez, eq_self, wb, wk, wnj, wcells, Nat.zero_add, Nat.mul_one, Int.toNat_natCast, idxY_s, Bool.and_self, Nat.reduceAdd, Nat.reduceMul, Nat.reduceSub, Nat.reduceLeDiff, and_self, true_and, Bool.not_true, Bool.not_false, if_true, decide_true, Option.bind_some]
          with_reducible refine ih _ ((a :: left).eraseIdx i) _ ?_ ?_ ?_
          · simp (disch := (first | (simp only [wcells, wk, Bool.and_self]; done) | (simp only [nx_alloc, nx_set]; done) | (simp only [nx_alloc, nx_set]; omega) | omega | (rw [decide_eq_true_eq]; omega) | decide)) only [wb, wk, wnj, wcells, Nat.zero_add, Nat.mul_one, Int.toNat_natCast, idxY_s, Bool.and_self, Nat.reduceAdd, Nat.reduceMul, Nat.reduceSub, Nat.reduceLeDiff, and_self, true_and, Bool.not_true, Bool.not_false, if_true, decide_true, Option.bind_some]
          · refine ⟨fun x hx => hj x (List.mem_of_mem_eraseIdx hx), ?_, by omega, ?_, ?_, j, ?_⟩
            · refine Grown.trans ?_ g6
              have := g3.next
              have := hg.next
              (repeat (first | exact Grown.refl _ | assumption | refine Grown.alloc ?_ _ | refine Grown.set ?_ (by first | omega | (simp only [nx_alloc, nx_set]; omega)) _))
            all_goals simp (disch := (first | (simp only [wcells, wk, Bool.and_self]; done) | (simp only [nx_alloc, nx_set]; done) | (simp only [nx_alloc, nx_set]; omega) | omega | (rw [decide_eq_true_eq]; omega) | decide)) only [g6.get, wb, wk, wnj, wcells, Nat.zero_add, Nat.mul_one, Int.toNat_natCast, idxY_s, Bool.and_self, Nat.reduceAdd, Nat.reduceMul, Nat.reduceSub, Nat.reduceLeDiff, and_self, true_and, Bool.not_true, Bool.not_false, if_true, decide_true, Option.bind_some]
            · exact c1
            · exact c2
          · rw [List.length_eraseIdx_of_lt hi]
            simp
      · simp (disch := (first | (simp only [wcells, wk, Bool.and_self]; done) | (simp only [nx_alloc, nx_set]; done) | (simp only [nx_alloc, nx_set]; omega) | omega | (rw [decide_eq_true_eq]; omega) | decide)) only [wb, wk, wnj, wcells, Nat.zero_add, Nat.mul_one, Int.toNat_natCast, idxY_s, Bool.and_self, Nat.reduceAdd, Nat.reduceMul, Nat.reduceSub, Nat.reduceLeDiff, and_self, true_and, Bool.not_true, Bool.not_false, if_true, decide_true, Option.bind_some]
      · refine ⟨by simp, ?_, by simp, ?_, ?_, M.length, ?_⟩
        · exact (hg.trans (g3.trans g4)).alloc _
        all_goals simp (disch := (first | (simp only [wcells, wk, Bool.and_self]; done) | (simp only [nx_alloc, nx_set]; done) | (simp only [nx_alloc, nx_set]; omega) | omega | (rw [decide_eq_true_eq]; omega) | decide)) only [wb, wk, wnj, wcells, Nat.zero_add, Nat.mul_one, Int.toNat_natCast, idxY_s, Bool.and_self, Nat.reduceAdd, Nat.reduceMul, Nat.reduceSub, Nat.reduceLeDiff, and_self, true_and, Bool.not_true, Bool.not_false, if_true, decide_true, Option.bind_some]
        · exact a4
        · exact b3
      · simp only [List.length_range]
        unfold LIM at hn
        omega
  · simp (disch := (first | (simp only [wcells, wk, Bool.and_self]; done) | (simp only [nx_alloc, nx_set]; done) | (simp only [nx_alloc, nx_set]; omega) | omega | (rw [decide_eq_true_eq]; omega) | decide)) only [wb, wk, wnj, wcells, Nat.zero_add, Nat.mul_one, Int.toNat_natCast, idxY_s, Bool.and_self, Nat.reduceAdd, Nat.reduceMul, Nat.reduceSub, Nat.reduceLeDiff, and_self, true_and, Bool.not_true, Bool.not_false, if_true, decide_true, Option.bind_some]
    rfl
  · refine ⟨by omega, g1, ?_⟩
    have : stepL few 3 ls 0 = ls := by simp [stepL]
    rw [this]
    exact o1
  · unfold LIM at hn; omega
end Go.Proofs.YtlcfkeigipkhlaaGreatDoorAbs
