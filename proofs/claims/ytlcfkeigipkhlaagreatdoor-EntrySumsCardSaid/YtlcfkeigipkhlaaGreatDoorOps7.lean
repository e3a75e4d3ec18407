/- Single operations: iterators; the operation as a whole. -/
import Derived.Test.YtlcfkeigipkhlaaGreatDoorOps6
set_option linter.unusedVariables false
set_option linter.unusedSimpArgs false
namespace Go.Proofs.YtlcfkeigipkhlaaGreatDoorAbs
open Go.RowKit
variable {P : Program}

theorem Sim.newObj {ρ : Env} {H : Heap} {w : World} {o : AObj} {ob : Obj} (h : HRel ρ H w) (ho : o.own = true) (hb : o.bd H.next) (hz : ∀ ρ' w', w'.heap[w.heap.size]? = some ob → Ext H.next ρ ρ' → ORel ρ' w' w.heap.size 0 o) :
    Sim ρ H w (ρ.set H.next (some ⟨w.heap.size, 0, none⟩) 0 (⟨0, 0, none⟩, 0)) (H.alloc o) (w.alloc ob) := by
  obtain ⟨f1, f2, f3, f4, f5, f6⟩ := alloc_facts w ob
  exact Sim.new 0 h ho hb f1 f2 (hz _ _ f3 (Env.set_ext _ _ _ _ _)) f4 f5 f6

theorem rangeA_sound {ρ : Env} {H H' : Heap} {w : World} (h : HRel ρ H w) {t : TypeId} {x v : AV} (hx : rangeA P t x H = some (v, H')) :
    ∃ ρ' w', (Instr.range t (ren ρ x)).run P w = .ok (ren ρ' v) w' ∧ Sim ρ H w ρ' H' w' ∧ v.bd H'.next := by
  unfold rangeA at hx
  split at hx
  · rename_i s hu
    injection hx with hx
    injection hx with hx1 hx2
    subst hx1 hx2
    refine ⟨_, _, ?_, Sim.newObj (ob := .stringIter s 0) h rfl trivial (fun ρ' w' hw _ => hw), by simp [AV.bd]⟩
    simp [Instr.range, run_und hu, ren, add_base]
  · rename_i k e hu
    injection hx with hx
    injection hx with hx1 hx2
    subst hx1 hx2
    refine ⟨_, _, ?_, Sim.newObj (ob := .mapIter none 0 #[] 0) h rfl trivial (fun ρ' w' hw _ => ⟨_, _, _, hw⟩), by simp [AV.bd]⟩
    simp [Instr.range, run_und hu, ren, add_base]
  · rename_i k e id hu
    split at hx
    · rename_i es hg
      injection hx with hx
      injection hx with hx1 hx2
      subst hx1 hx2
      obtain ⟨b, e1, e2, ents, e3, e4, e5⟩ := h.own id _ hg rfl
      have hid := h.lt id _ hg
      have hl : ents.size = es.length := by
        have := congrArg List.length e4
        simpa using this
      refine ⟨_, _, ?_, Sim.newObj (ob := .mapIter (some b) es.length #[] es.length) h rfl hid (fun ρ' w' hw hext => ⟨b, #[], by rw [hext.addr id hid]; exact e1, hw, (List.filter_eq_self.2 (by simp)).symm, fun hlt => by omega⟩), by simp [AV.bd]⟩
      simp [Instr.range, run_und hu, ren, add_base, e1, run_getObj' e3, hl]
    · cases hx
  · cases hx

theorem eraseIdx_filter : ∀ (l : List Nat) (i j : Nat), l.Pairwise (· ≠ ·) → l[i]? = some j → l.eraseIdx i = l.filter (fun k => k != j)
  | [], i, j, _, h => by simp at h
  | a :: l, 0, j, hp, h => by
    simp at h
    subst h
    rw [List.pairwise_cons] at hp
    have : l.filter (fun k => k != a) = l := List.filter_eq_self.2 fun b hb => by simpa using (hp.1 b hb).symm
    simp [this]
  | a :: l, i + 1, j, hp, h => by
    rw [List.pairwise_cons] at hp
    have hj : l[i]? = some j := by simpa using h
    have hne : a ≠ j := hp.1 j (List.mem_of_getElem? hj)
    rw [List.eraseIdx_cons_succ, eraseIdx_filter l i j hp.2 hj, List.filter_cons_of_pos (by simpa using hne)]
/-- What is left when one more is seen. -/
theorem left_erase {n i j : Nat} {seen : Array Nat} {left : List Nat} (hl : left = (List.range n).filter (fun j => !seen.contains j)) (hi : left[i]? = some j) : left.eraseIdx i = (List.range n).filter (fun k => !(seen.push j).contains k) := by
  have hnd : left.Pairwise (· ≠ ·) := by rw [hl]; exact List.Pairwise.filter _ List.nodup_range
  rw [eraseIdx_filter left i j hnd hi, hl, List.filter_filter]
  apply List.filter_congr
  intro k _
  simp only [Array.contains_push]
  cases h2 : seen.contains k <;> cases h3 : (k == j) <;> simp [h3, bne]

theorem nextA_sound {ρ : Env} {H : Heap} {w : World} (h : HRel ρ H w) {x : AV} {s : Bool} {ty : TypeId} {Q : AV × Heap → Prop} (hx : (nextA x s H).all Q) :
    ∃ v H' ρ' w', (Instr.next (ren ρ x) s ty).run P w = .ok (ren ρ' v) w' ∧ Sim ρ H w ρ' H' w' ∧ v.bd H'.next ∧ Q (v, H') := by
  unfold nextA at hx
  split at hx
  · rename_i id
    split at hx
    · rename_i st pos hg
      obtain ⟨b, e1, e2, e3⟩ := h.own id _ hg rfl
      have e3 : w.heap[b]? = some (.stringIter st pos) := e3
      have hr : ren ρ (.ptr id 0) = .pointer (some ⟨b, 0, none⟩) := by simp [ren, e1, add_base]
      split at hx
      · rename_i hp
        obtain ⟨s1, s2, s3⟩ := set_facts w (.stringIter st (pos + (Utf8.decode st pos).2)) e3
        refine ⟨_, _, ρ, _, ?_, Sim.write h hg rfl e1 rfl trivial (o' := .sit st (pos + (Utf8.decode st pos).2)) s3 s1 s2 rfl rfl rfl, ?_, hx⟩
        · rw [hr]
          simp [Instr.next, run_getObj' e3, hp, run_setObj' e3, ren, goInt]
        · simp [AV.bd]
      · rename_i hp
        refine ⟨_, _, ρ, w, ?_, Sim.refl h, ?_, hx⟩
        · rw [hr]
          simp [Instr.next, run_getObj' e3, hp, ren]
        · simp [AV.bd]
    · rename_i n l a hg
      obtain ⟨b, e1, e2, sn, se, la, e3⟩ := h.own id _ hg rfl
      have hr : ren ρ (.ptr id 0) = .pointer (some ⟨b, 0, none⟩) := by simp [ren, e1, add_base]
      refine ⟨_, _, ρ, w, ?_, Sim.refl h, ?_, hx⟩
      · rw [hr]
        simp [Instr.next, run_getObj' e3, ren]
      · simp [AV.bd]
    · rename_i m n left at_ hg
      obtain ⟨b, e1, e2, mb, seen, e3, e4, e5, e6⟩ := h.own id _ hg rfl
      have hr : ren ρ (.ptr id 0) = .pointer (some ⟨b, 0, none⟩) := by simp [ren, e1, add_base]
      split at hx
      · rename_i es hgm
        obtain ⟨mb', f1, f2, ents, f3, f4, f5⟩ := h.own m _ hgm rfl
        rw [e3] at f1
        injection f1 with f1
        injection f1 with f1
        subst f1
        split at hx
        · rename_i hn
          have hl : ents.size = es.length := by
            have := congrArg List.length f4
            simpa using this
          have hbm := h.bd m _ hgm
          -- the model's candidates
          have hguard : (!seen.isEmpty && !ents.isEmpty && ents.all (fun e => decide (e.born ≥ n))) = false := by
            by_cases he : ents.isEmpty
            · simp [he]
            · have h0 : 0 < ents.size := by
                rcases Nat.eq_zero_or_pos ents.size with h | h
                · simp [Array.isEmpty, h] at he
                · exact h
              have hb0 := f5 0 (ents[0]'h0) (Array.getElem?_eq_getElem h0)
              have hall : ents.all (fun e => decide (e.born ≥ n)) = false := by
                rw [Bool.eq_false_iff]
                intro hall
                rw [Array.all_eq_true] at hall
                have := hall 0 h0
                simp at this
                omega
              rw [hall]
              simp
          have hold : ((ents.filter fun e => !seen.contains e.born).filter fun e => decide (e.born < n)) = ents.filter fun e => !seen.contains e.born := by
            apply Array.ext'
            simp only [Array.toList_filter]
            rw [List.filter_filter]
            apply List.filter_congr
            intro e he
            obtain ⟨i, hi⟩ := List.getElem?_of_mem he
            rw [Array.getElem?_toList] at hi
            have := f5 i e hi
            have hlt := (Array.getElem?_eq_some_iff.1 hi).1
            have : e.born < n := by omega
            simp [this]
          have hnew : ((ents.filter fun e => !seen.contains e.born).filter fun e => decide (e.born ≥ n)) = #[] := by
            apply Array.ext'
            simp only [Array.toList_filter, List.toList_toArray]
            rw [List.filter_filter, List.filter_eq_nil_iff]
            intro e he
            obtain ⟨i, hi⟩ := List.getElem?_of_mem he
            rw [Array.getElem?_toList] at hi
            have := f5 i e hi
            have hlt := (Array.getElem?_eq_some_iff.1 hi).1
            have : ¬ (e.born ≥ n) := by omega
            simp [this]
          -- the entries that are left, by their numbers
          have hleft : (ents.filter fun e => !seen.contains e.born).toList = left.map (fun j => ents.getD j default) := by
            rw [Array.toList_filter, e5]
            have h1 : ents.toList = (List.range n).map (fun j => ents.getD j default) := by
              apply List.ext_getElem?
              intro i
              rw [List.getElem?_map, Array.getElem?_toList]
              by_cases hi : i < n
              · rw [List.getElem?_range hi, Array.getElem?_eq_getElem (by omega)]
                simp [Array.getD_eq_getD_getElem?, Array.getElem?_eq_getElem (show i < ents.size by omega)]
              · rw [List.getElem?_eq_none (by simpa using hi), Array.getElem?_eq_none (by omega)]
                rfl
            rw [h1, List.filter_map]
            congr 1
            apply List.filter_congr
            intro j hj
            have hjn : j < n := by simpa using hj
            have hb := f5 j (ents[j]'(by omega)) (Array.getElem?_eq_getElem (by omega))
            simp [Array.getD_eq_getD_getElem?, Array.getElem?_eq_getElem (show j < ents.size by omega), hb]
          have hsz : (ents.filter fun e => !seen.contains e.born).size = left.length := by
            rw [← Array.length_toList, hleft, List.length_map]
          split at hx
          · -- none is left
            have hemp : (ents.filter fun e => !seen.contains e.born) = #[] := Array.eq_empty_of_size_eq_zero (by simpa using hsz)
            refine ⟨_, _, ρ, w, ?_, Sim.refl h, ?_, hx⟩
            · rw [hr]
              simp only [Instr.next, Sem.run_bind, run_getObj' e4, Result.andThen_ok, run_getObj' f3, hguard, Bool.false_eq_true, if_false, hold, hnew, hemp]
              simp [Question.forced, ren]
            · simp [AV.bd]
          · rename_i hne
            have hpos : 0 < left.length := by
              cases left with
              | nil => exact absurd rfl hne
              | cons a l => simp
            have hnemp : (ents.filter fun e => !seen.contains e.born).isEmpty = false := by
              rw [Bool.eq_false_iff]
              intro he
              simp only [Array.isEmpty, decide_eq_true_eq] at he
              omega
            -- the choice
            generalize hL : (ents.filter fun e => !seen.contains e.born) = L at *
            have hch : ∃ (i : Nat) (w1 : World), i < left.length ∧ (choose (.mapNext L.size)).run P w = .ok i w1 ∧ w1.heap = w.heap ∧ w1.os = w.os ∧ w1.tape = w.tape ∧ w1.output = w.output := by
              rw [run_choose]
              by_cases h1 : L.size ≤ 1
              · exact ⟨0, w, by omega, by simp [Question.forced, h1], rfl, rfl, rfl, rfl⟩
              · refine ⟨w.tape w.drawn (.mapNext L.size) % L.size, w.drew, ?_, by simp [Question.forced, h1, Question.cut], rfl, rfl, rfl, rfl⟩
                have := Nat.mod_lt (w.tape w.drawn (.mapNext L.size)) (show 0 < L.size by omega)
                omega
            obtain ⟨i, w1, hi, hc, g1, g2, g3, g4⟩ := hch
            have hxi := hx i hi
            simp only [List.getElem?_eq_getElem hi] at hxi
            generalize hj : left[i] = j at hxi
            have hij : left[i]? = some j := by rw [List.getElem?_eq_getElem hi, hj]
            have hjn : j < n := by
              have : j ∈ left := List.mem_of_getElem? hij
              rw [e5] at this
              simpa using (List.mem_filter.1 this).1
            have hje : j < ents.size := by omega
            have hent : L[i]? = some (ents[j]'hje) := by
              rw [← Array.getElem?_toList, hleft, List.getElem?_map, hij]
              simp [Array.getD_eq_getD_getElem?, Array.getElem?_eq_getElem hje]
            have hborn := f5 j (ents[j]'hje) (Array.getElem?_eq_getElem hje)
            have hkv : ∃ p, es[j]? = some p ∧ (ents[j]'hje).key = ren ρ p.1 ∧ (ents[j]'hje).val = ren ρ p.2 := by
              refine ⟨es[j]'(by omega), List.getElem?_eq_getElem (by omega), ?_⟩
              have h1 : (ents.toList.map (fun e => (e.key, e.val)))[j]? = (es.map (fun p => (ren ρ p.1, ren ρ p.2)))[j]? := by rw [f4]
              rw [List.getElem?_map, List.getElem?_map, Array.getElem?_toList, Array.getElem?_eq_getElem hje, List.getElem?_eq_getElem (show j < es.length by omega)] at h1
              simp only [Option.map_some] at h1
              injection h1 with h1
              injection h1 with h1 h2
              exact ⟨h1, h2⟩
            obtain ⟨⟨k, v⟩, hp1, hp2, hp3⟩ := hkv
            simp only [hp1] at hxi
            have e4' : w1.heap[b]? = some (.mapIter (some mb) n seen n) := by rw [g1]; exact e4
            obtain ⟨s1, s2, s3⟩ := set_facts w1 (.mapIter (some mb) n (seen.push j) ents.size) e4'
            have hll : ents.size = n := by omega
            have s1 := s1.trans (by rw [g1])
            have s2 := fun k hk => (s2 k hk).trans (by rw [g1] : w1.heap[k]? = w.heap[k]?)
            refine ⟨_, _, ρ, { w1 with heap := w1.heap.setIfInBounds b (.mapIter (some mb) n (seen.push j) ents.size) }, ?_, Sim.write h hg rfl e1 rfl (o' := .mit (some m) n (left.eraseIdx i) j) (show m < H.next from h.bd id _ hg) ⟨mb, seen.push j, e3, by rw [s3, hll], left_erase e5 hij, fun _ => by simp⟩ s1 s2 g2 g3 g4, ?_, hxi⟩
            · rw [hr]
              have hcand : ((#[] : Array (Option MapEntry)) ++ L.map some).size = L.size := by simp
              have hcg : ((#[] : Array (Option MapEntry)) ++ L.map some)[i]? = some (some (ents[j]'hje)) := by simp [hent]
              simp only [Instr.next, Sem.run_bind, run_getObj' e4, Result.andThen_ok, run_getObj' f3, hguard, Bool.false_eq_true, if_false, hL, hold, hnew, hnemp, Array.append_empty, hcand, hc, hcg, run_setObj' e4', hborn, Sem.run_pure, hp2, hp3]
              simp [ren]
            · have := hbm (k, v) (List.mem_of_getElem? hp1)
              simp [AV.bd]
              exact this
        · exact hx.elim
      · exact hx.elim
    · exact hx.elim
  · exact hx.elim

theorem entryA_sound {ρ : Env} {H : Heap} {w : World} (h : HRel ρ H w) {x v : AV} (hx : entryA x H = some v) : (Instr.entry (ren ρ x)).run P w = .ok (ren ρ v) w ∧ v.bd H.next := by
  unfold entryA at hx
  split at hx
  · rename_i id
    split at hx
    · rename_i m n left at_ hg
      obtain ⟨b, e1, e2, mb, seen, e3, e4, e5, e6⟩ := h.own id _ hg rfl
      have hr : ren ρ (.ptr id 0) = .pointer (some ⟨b, 0, none⟩) := by simp [ren, e1, add_base]
      split at hx
      · rename_i es hgm
        obtain ⟨mb', f1, f2, ents, f3, f4, f5⟩ := h.own m _ hgm rfl
        rw [e3] at f1
        injection f1 with f1
        injection f1 with f1
        subst f1
        split at hx
        · rename_i hn
          have hl : ents.size = es.length := by
            have := congrArg List.length f4
            simpa using this
          split at hx
          · rename_i k u hat
            injection hx with hx
            subst hx
            have hlt := (List.getElem?_eq_some_iff.1 hat).1
            have hb := e6 (by omega)
            have hate : at_ < ents.size := by omega
            have hfind : ents.find? (·.born == at_) = some (ents[at_]'hate) := by
              rw [Array.find?_eq_some_iff_getElem]
              refine ⟨by simp [f5 at_ _ (Array.getElem?_eq_getElem hate)], at_, hate, rfl, fun j hj => ?_⟩
              have := f5 j _ (Array.getElem?_eq_getElem (show j < ents.size by omega))
              simp [this]
              omega
            have h1 : (ents.toList.map (fun e => (e.key, e.val)))[at_]? = (es.map (fun p => (ren ρ p.1, ren ρ p.2)))[at_]? := by rw [f4]
            rw [List.getElem?_map, List.getElem?_map, Array.getElem?_toList, Array.getElem?_eq_getElem hate, hat] at h1
            simp only [Option.map_some] at h1
            injection h1 with h1
            injection h1 with h1 h2
            refine ⟨?_, ?_⟩
            · rw [hr]
              have hll : ents.size = n := by omega
              simp only [Instr.entry, Sem.run_bind, run_getObj' e4, Result.andThen_ok, hb, run_getObj' f3, hll, bne_self_eq_false, Bool.false_eq_true, if_false, hfind, Sem.run_pure, h1, h2]
              simp [ren]
            · have := h.bd m _ hgm (k, u) (List.mem_of_getElem? hat)
              simp [AV.bd]
              exact this
          · cases hx
        · cases hx
      · cases hx
    · cases hx
  · cases hx

end Go.Proofs.YtlcfkeigipkhlaaGreatDoorAbs
