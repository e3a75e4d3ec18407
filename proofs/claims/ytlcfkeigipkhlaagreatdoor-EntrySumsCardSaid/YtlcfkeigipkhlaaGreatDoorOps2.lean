/- Single operations: aggregates, literals, make. -/
import Derived.Test.YtlcfkeigipkhlaaGreatDoorOps1
set_option linter.unusedVariables false
set_option linter.unusedSimpArgs false
namespace Go.Proofs.YtlcfkeigipkhlaaGreatDoorAbs
open Go.RowKit
variable {P : Program}

theorem foldl_set (off : Nat) : ∀ (l : List Value) (k : Nat) (cs : Array Value), off + k + l.length ≤ cs.size →
    ((l.zipIdx k).foldl (fun cs (p : Value × Nat) => cs.setIfInBounds (off + p.2) p.1) cs).size = cs.size ∧
    ∀ j, ((l.zipIdx k).foldl (fun cs (p : Value × Nat) => cs.setIfInBounds (off + p.2) p.1) cs)[j]? = if off + k ≤ j ∧ j < off + k + l.length then l[j - (off + k)]? else cs[j]?
  | [], k, cs, h => ⟨rfl, fun j => by rw [if_neg (by simp)]; rfl⟩
  | v :: l, k, cs, h => by
    simp only [List.length_cons] at h
    obtain ⟨e1, e2⟩ := foldl_set off l (k + 1) (cs.setIfInBounds (off + k) v) (by simp; omega)
    simp only [List.zipIdx_cons, List.foldl_cons]
    refine ⟨by rw [e1]; simp, fun j => ?_⟩
    rw [e2 j]
    simp only [List.length_cons]
    by_cases h1 : off + (k + 1) ≤ j ∧ j < off + (k + 1) + l.length
    · rw [if_pos h1, if_pos (by omega), show j - (off + k) = (j - (off + (k + 1))) + 1 from by omega]
      simp
    · rw [if_neg h1, Array.getElem?_setIfInBounds]
      by_cases h2 : off + k = j
      · subst h2
        rw [if_pos rfl, if_pos (by omega), if_pos (by omega)]
        simp
      · rw [if_neg h2, if_neg (by omega)]
theorem fill_set {ρ : Env} {cells l : List AV} {off : Nat} (h : off + l.length ≤ cells.length) :
    (l.map (ren ρ)).toArray.zipIdx.foldl (fun cs (p : Value × Nat) => cs.setIfInBounds (off + p.2) p.1) (cells.map (ren ρ)).toArray = ((splice cells off l).map (ren ρ)).toArray := by
  rw [← Array.foldl_toList]
  obtain ⟨e1, e2⟩ := foldl_set off (l.map (ren ρ)) 0 (cells.map (ren ρ)).toArray (by simp; omega)
  apply Array.ext_getElem?
  intro j
  have hz : (l.map (ren ρ)).toArray.zipIdx.toList = (l.map (ren ρ)).zipIdx 0 := by simp
  rw [hz, e2 j]
  simp only [List.getElem?_toArray, List.getElem?_map, splice_get h j, List.length_map, Nat.add_zero]
  split <;> rfl
theorem fillA_sound {ρ : Env} {place : Nat → Option (Nat × Nat)} : ∀ {parts : List (Nat × AV)} {cells out : List AV}, fillA place cells parts = some out →
    Instr.fill place (cells.map (ren ρ)).toArray (parts.map fun p => (p.1, ren ρ p.2)) = some (out.map (ren ρ)).toArray ∧ out.length = cells.length ∧ ∀ n, (∀ v ∈ cells, v.bd n) → (∀ p ∈ parts, p.2.bd n) → ∀ v ∈ out, v.bd n
  | [], cells, out, h => by
    simp [fillA] at h
    subst h
    exact ⟨by simp [Instr.fill], rfl, fun n hc _ => hc⟩
  | (i, v) :: rest, cells, out, h => by
    simp only [fillA] at h
    split at h
    · cases h
    · rename_i off size hp
      split at h
      · rename_i hle
        obtain ⟨h1, h2⟩ := hle
        obtain ⟨e1, e2, e3⟩ := fillA_sound (ρ := ρ) h
        refine ⟨?_, by rw [e2, splice_length (by omega)], fun n hc hb => e3 n ?_ fun p hp => hb p (by simp [hp])⟩
        · simp only [List.map_cons, Instr.fill, hp]
          have hs : (ren ρ v).cells.size = v.cells.length := by rw [ren_cells]; simp
          rw [if_neg (by rw [hs]; simp; omega), ren_cells]
          rw [← e1]
          congr 1
          exact fill_set (by omega)
        · intro x hx
          rcases splice_mem hx with hx | hx
          · exact hc x hx
          · exact cells_bd (hb (i, v) (by simp)) x hx
      · cases h

theorem run_mapM_places : ∀ {l : List Field} {r : List (Nat × Nat)} {w : World}, placesA P l = some r → (l.mapM (fun f => do pure (f.offset, ← sizeOf f.type)) : Sem (List (Nat × Nat))).run P w = .ok r w
  | [], r, w, h => by simp [placesA] at h; subst h; simp
  | f :: l, r, w, h => by
    simp only [placesA] at h
    split at h
    · rename_i s r' h1 h2
      injection h with h
      subst h
      have ih := run_mapM_places (w := w) h2
      rw [List.mapM_cons]
      simp only [Sem.run_bind, run_siz h1, Result.andThen_ok, Sem.run_pure, ih]
    · cases h

theorem buildA_sound {ρ : Env} {H : Heap} {w : World} {t : TypeId} {parts : List (Nat × AV)} {x : AV} (hb : ∀ p ∈ parts, p.2.bd H.next) (hx : buildA P t parts = some x) :
    (Instr.build t (parts.map fun p => (p.1, ren ρ p.2)).toArray).run P w = .ok (ren ρ x) w ∧ x.bd H.next := by
  unfold buildA at hx
  split at hx
  · rename_i z place hz hp
    cases hf : fillA place z.cells parts with
    | none => simp [hf] at hx
    | some out =>
      simp [hf] at hx
      subst hx
      obtain ⟨z1, z2⟩ := run_zero (ρ := ρ) (w := w) hz
      obtain ⟨e1, e2, e3⟩ := fillA_sound (ρ := ρ) hf
      refine ⟨?_, by simp only [AV.bd]; exact e3 _ (cells_bd (z2 _)) hb⟩
      unfold placeA at hp
      split at hp
      · rename_i fs hu
        cases hpl : placesA P fs.toList with
        | none => simp [hpl] at hp
        | some r =>
          simp [hpl] at hp
          have hm : (fs.mapM (fun f => do pure (f.offset, ← sizeOf f.type)) : Sem (Array (Nat × Nat))).run P w = .ok r.toArray w := by
            rw [Array.mapM_eq_mapM_toList, Sem.run_map, run_mapM_places hpl]
            rfl
          have he : (fun x => r.toArray[x]?) = place := by rw [← hp]; funext i; simp
          simp only [Instr.build, Sem.run_bind, z1, Result.andThen_ok, run_und hu, hm]
          rw [he, ren_cells, e1]
          simp [ren]
      · rename_i n e hu
        split at hp
        · rename_i s hs
          injection hp with hp
          simp only [Instr.build, Sem.run_bind, z1, Result.andThen_ok, run_und hu, run_siz hs]
          rw [hp, ren_cells, e1]
          simp [ren]
        · cases hp
      · cases hp
  · cases hx

theorem repeatL_length (z : List AV) : ∀ n, (repeatL z n).length = n * z.length
  | 0 => by simp [repeatL]
  | n + 1 => by simp [repeatL, repeatL_length z n, Nat.add_mul]; omega
theorem repeatL_get (z : List AV) : ∀ (n i : Nat), i < n * z.length → (repeatL z n)[i]? = z[i % z.length]?
  | 0, i, h => by omega
  | n + 1, i, h => by
    simp only [repeatL]
    by_cases hi : i < z.length
    · rw [List.getElem?_append_left hi, Nat.mod_eq_of_lt hi]
    · rw [List.getElem?_append_right (by omega), repeatL_get z n (i - z.length) (by rw [Nat.add_mul] at h; omega)]
      congr 1
      rw [← Nat.mod_eq_sub_mod (by omega)]
theorem repeatL_mem (z : List AV) : ∀ (n : Nat) (v : AV), v ∈ repeatL z n → v ∈ z
  | 0, v, h => by simp [repeatL] at h
  | n + 1, v, h => by
    simp only [repeatL] at h
    rcases List.mem_append.1 h with h | h
    · exact h
    · exact repeatL_mem z n v h
/-- The model's zeros. -/
theorem zeros_eq {ρ : Env} {z : List AV} (hz : 0 < z.length) (n : Nat) : (Array.range (n * z.length)).map (fun i => ((z.map (ren ρ)).toArray)[i % (z.map (ren ρ)).toArray.size]!) = ((repeatL z n).map (ren ρ)).toArray := by
  apply Array.ext_getElem?
  intro i
  simp only [Array.getElem?_map, List.getElem?_toArray, List.getElem?_map]
  by_cases hi : i < n * z.length
  · rw [repeatL_get z n i hi]
    have hm : i % z.length < z.length := Nat.mod_lt _ hz
    simp [Array.getElem?_range, hi, hm, getElem!_pos, List.getElem?_eq_getElem hm]
  · have h1 : (repeatL z n)[i]? = none := List.getElem?_eq_none (by rw [repeatL_length]; omega)
    simp [h1, hi]
theorem zcellsA_some {e : TypeId} {z : List AV} (h : zcellsA P e = some z) : ∃ v, zeroA P e = some v ∧ v.cells = z ∧ sizA P e = some z.length ∧ 0 < z.length := by
  unfold zcellsA at h
  split at h
  · rename_i v s h1 h2
    split at h
    · rename_i hc
      injection h with h
      subst h
      exact ⟨v, h1, rfl, by rw [h2, hc.1], by omega⟩
    · cases h
  · cases h
theorem elemA_some {t e : TypeId} (h : elemA P t = some e) : P.underlying t = some (.slice e) := by
  unfold elemA at h
  split at h
  · rename_i e' hu
    injection h with h
    subst h
    exact hu
  · cases h

theorem buildSliceA_sound {ρ : Env} {H H' : Heap} {w : World} (h : HRel ρ H w) {t : TypeId} {len : Nat} {parts : List (Nat × AV)} {x : AV} (hb : ∀ p ∈ parts, p.2.bd H.next) (hx : buildSliceA P t len parts H = some (x, H')) :
    ∃ ρ' w', (Instr.buildSlice t len (parts.map fun p => (p.1, ren ρ p.2)).toArray).run P w = .ok (ren ρ' x) w' ∧ Sim ρ H w ρ' H' w' ∧ x.bd H'.next := by
  unfold buildSliceA at hx
  split at hx
  · rename_i e he
    split at hx
    · rename_i z hz
      split at hx
      · rename_i hle
        split at hx
        · rename_i cs hf
          split at hx
          · rename_i hall
            injection hx with hx
            injection hx with hx1 hx2
            subst hx1 hx2
            obtain ⟨v, z1, z2, z3, z4⟩ := zcellsA_some hz
            obtain ⟨z5, z6⟩ := run_zero (ρ := ρ) (w := w) z1
            obtain ⟨e1, e2, e3⟩ := fillA_sound (ρ := ρ) hf
            have hbd : ∀ v ∈ cs, v.bd H.next := e3 _ (fun u hu => by
              have := repeatL_mem z len u hu
              rw [← z2] at this
              exact cells_bd (z6 _) u this) hb
            refine ⟨_, _, ?_, Sim.newRow h ⟨rfl, rfl, rfl, rfl⟩ (arr := (cs.map (ren ρ)).toArray) hbd (fun _ => by simp) (by simp) list_get, by simp [AV.bd]⟩
            have hle' : ¬ (len * z.length > 2 ^ 24) := by omega
            simp only [Instr.buildSlice, Sem.run_bind, run_und (elemA_some he), Result.andThen_ok, run_siz z3, if_neg hle', Sem.run_pure]
            by_cases h0 : len * z.length = 0
            · have hl0 : len = 0 := by
                rcases Nat.mul_eq_zero.1 h0 with h | h
                · exact h
                · omega
              subst hl0
              simp only [Nat.zero_mul, if_true, Sem.run_bind, Sem.run_pure, Result.andThen_ok]
              have : (repeatL z 0).map (ren ρ) = [] := rfl
              rw [this] at e1
              have hr : ∀ f : Nat → Value, (Array.range 0).map f = #[] := fun f => Array.eq_empty_of_size_eq_zero (by simp)
              rw [hr, e1]
              simp [newRow_run, ren, add_base]
            · simp only [if_neg h0, Sem.run_bind, z5, Result.andThen_ok, Sem.run_pure]
              rw [ren_cells, z2, zeros_eq z4, e1]
              simp [newRow_run, ren, add_base]
          · cases hx
        · cases hx
      · cases hx
    · cases hx
  · cases hx

theorem makeSliceA_sound {ρ : Env} {H H' : Heap} {w : World} (h : HRel ρ H w) {t : TypeId} {l c x : AV} (hx : makeSliceA P t l c H = some (x, H')) :
    ∃ ρ' w', (Instr.makeSlice t (ren ρ l) (ren ρ c)).run P w = .ok (ren ρ' x) w' ∧ Sim ρ H w ρ' H' w' ∧ x.bd H'.next := by
  unfold makeSliceA at hx
  split at hx
  · rename_i e kl l kc c he
    split at hx
    · rename_i z b hz hbt
      split at hx
      · rename_i hle
        obtain ⟨h1, h2, h3, h4⟩ := hle
        injection hx with hx
        injection hx with hx1 hx2
        subst hx1 hx2
        obtain ⟨v, z1, z2, z3, z4⟩ := zcellsA_some hz
        obtain ⟨z5, z6⟩ := run_zero (ρ := ρ) (w := w) z1
        obtain ⟨i, b1, b2⟩ := run_bytes (w := w) hbt
        have hbd : ∀ v ∈ repeatL z c.toNat, v.bd H.next := fun u hu => by
          have := repeatL_mem z _ u hu
          rw [← z2] at this
          exact cells_bd (z6 _) u this
        refine ⟨_, _, ?_, Sim.newRow h ⟨rfl, rfl, rfl, rfl⟩ (arr := ((repeatL z c.toNat).map (ren ρ)).toArray) hbd (fun _ => by simp) (by simp) list_get, by simp [AV.bd]⟩
        have wl : IntKind.i64.wrap l = l := by
          unfold IntKind.wrap IntKind.bits IntKind.signed
          simp only [Bool.true_and, decide_eq_true_eq]
          split <;> omega
        have wc : IntKind.i64.wrap c = c := by
          unfold IntKind.wrap IntKind.bits IntKind.signed
          simp only [Bool.true_and, decide_eq_true_eq]
          split <;> omega
        have t1 : (decide (c < 0) || decide (↑i.bytes * c > (281474976710656 : Int))) = false := by
          rw [b2]
          simp
          omega
        simp only [Instr.makeSlice, Sem.run_bind, run_und (elemA_some he), Result.andThen_ok, ren, asInt, asIntOf, Sem.run_pure, b1, wl, wc]
        simp only [show (2 ^ 48 : Int) = 281474976710656 from by decide, t1, Bool.false_or]
        have t2 : (decide (l < 0) || decide (l > c)) = false := by simp; omega
        simp only [t2, Bool.false_eq_true, if_false, Sem.run_bind, Sem.run_pure, run_askRoom, Result.andThen_ok, run_siz z3]
        by_cases h0 : c.toNat * z.length = 0
        · have hl0 : c.toNat = 0 := by
            rcases Nat.mul_eq_zero.1 h0 with h | h
            · exact h
            · omega
          have hr : ∀ f : Nat → Value, (Array.range 0).map f = #[] := fun f => Array.eq_empty_of_size_eq_zero (by simp)
          simp only [hl0, Nat.zero_mul, if_true, Sem.run_bind, Sem.run_pure, Result.andThen_ok, repeatL]
          rw [hr]
          simp [newRow_run, ren, add_base]
        · simp only [if_neg h0, Sem.run_bind, z5, Result.andThen_ok, Sem.run_pure]
          rw [ren_cells, z2, zeros_eq z4]
          simp [newRow_run, ren, add_base]
      · cases hx
    · cases hx
  · cases hx

end Go.Proofs.YtlcfkeigipkhlaaGreatDoorAbs
