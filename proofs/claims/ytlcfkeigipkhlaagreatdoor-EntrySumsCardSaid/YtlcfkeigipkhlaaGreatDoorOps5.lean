/- Single operations: append, copy, len and their kin. -/
import Derived.Test.YtlcfkeigipkhlaaGreatDoorOps4
import Derived.Laws.Append
set_option linter.unusedVariables false
set_option linter.unusedSimpArgs false
namespace Go.Proofs.YtlcfkeigipkhlaaGreatDoorAbs
open Go.RowKit
variable {P : Program}

theorem map_bytes {ρ : Env} (l : List UInt8) : (bytesAV l).map (ren ρ) = l.map fun c => Value.int .u8 c.toNat := by
  rw [bytesAV, List.map_map]
  exact List.map_congr_left fun c _ => by simp [ren]
theorem firstA_run {ρ : Env} {H : Heap} {w w1 : World} (h : HRel ρ H w) (hw : w1.heap = w.heap) {s n : Nat} {y : AV} {l : List AV} (hx : firstA s n y H = some l) :
    (Builtin.firstCells s n (ren ρ y)).run P w1 = .ok (l.map (ren ρ)).toArray w1 ∧ (∀ v ∈ l, v.bd H.next) := by
  have h1 := h.world hw
  unfold firstA at hx
  split at hx
  · rename_i id off len c
    split at hx
    · rename_i cs hc
      obtain ⟨e1, e2, e3⟩ := h1.cells hc
      obtain ⟨f1, f2, f3, f4⟩ := loadN_some hx
      refine ⟨?_, fun v hv => e1 v (f3 v hv)⟩
      cases ha : ρ.addr id with
      | none =>
        have hl : l = [] := by
          cases l with
          | nil => rfl
          | cons x l =>
            exfalso
            have hlt : off < cs.length := by simp at f2; omega
            obtain ⟨ad, g1, _⟩ := e3 off _ (List.getElem?_eq_getElem hlt)
            rw [ha] at g1
            cases g1
        subst hl
        cases c <;> simp [ren, ha, Builtin.firstCells]
      | some ad =>
        have hcell : ∀ j v, (l.map (ren ρ))[j]? = some v → w1.cell? ((ad.add off).add j) = some v := by
          refine cells_of_list fun j x hj => ?_
          have hjl : j < n * s := by
            have := (List.getElem?_eq_some_iff.1 hj).1
            omega
          have hj0 := hj
          rw [f4 j hjl] at hj
          obtain ⟨ad', g1, g2⟩ := e3 _ x hj
          rw [ha] at g1
          injection g1 with g1
          subst g1
          rw [add_add]
          exact g2.resolve_left (cell_nj (loadN_cell hx x (List.mem_of_getElem? hj0)))
        have := run_loadCells (P := P) (vs := l.map (ren ρ)) (n := n * s) (by simpa using f2) hcell
        cases c <;> simp [ren, ha, Builtin.firstCells, this]
    · cases hx
  · split at hx
    · rename_i h0
      injection hx with hx
      subst hx
      exact ⟨by simp [ren, Builtin.firstCells], by simp⟩
    · cases hx
  · split at hx
    · rename_i h0
      injection hx with hx
      subst hx h0
      exact ⟨by simp [ren, Builtin.firstCells, loadCells, loadCellsFrom], by simp⟩
    · cases hx
  · rename_i b
    split at hx
    · rename_i hle
      injection hx with hx
      subst hx
      refine ⟨?_, ?_⟩
      · rw [map_bytes]
        have : (b.extract 0 n).data.map (fun b => Value.int .u8 b.toNat) = ((b.data.toList.take n).map fun c => Value.int .u8 c.toNat).toArray := by
          apply Array.ext_getElem?
          intro i
          rw [ByteArray.data_extract]
          have hsz : b.data.size = b.size := rfl
          simp only [Array.getElem?_map, Array.getElem?_extract, List.getElem?_toArray, List.getElem?_map]
          by_cases hi : i < n
          · rw [if_pos (by omega), List.getElem?_take_of_lt hi]
            simp
          · rw [if_neg (by omega), List.getElem?_eq_none (by simp; omega)]
        simp only [ren, Builtin.firstCells, Sem.run_pure, this]
      · intro v hv
        obtain ⟨c, _, rfl⟩ := List.mem_map.1 hv
        simp [AV.bd]
    · cases hx
  · cases hx
theorem lenA_run {ρ : Env} {w : World} {y : AV} {n : Nat} (h : lenA y = some n) : (Builtin.lenOf (ren ρ y)).run P w = .ok n w := by
  unfold lenA at h
  split at h
  · rename_i id off len c
    injection h with h
    subst h
    cases c <;> simp [ren, Builtin.lenOf]
  all_goals first
    | (injection h with h; subst h; simp [ren, Builtin.lenOf]; done)
    | cases h

/-- What is appended: cells that are read, or zeros. -/
inductive AppSrc (P : Program) (e : TypeId) (s b : Nat) (z : List AV) (ρ : Env) (H : Heap) (u : TypeId) (y : AV) (k : Nat) (new : List AV) : Prop where
  | read (hu : isSeqT P u = true) (hl : lenA y = some k) (hf : firstA s k y H = some new)
  | zeros (hi : isIntT P u = true) (hy : y = .int .i64 k) (hk : k ≤ 70368744177664) (hkb : (k : Int) * b ≤ 70368744177664) (hn : new = repeatL z k)
theorem zeroCells_eq {ρ : Env} {z : List AV} (hz : 0 < z.length) (n : Nat) : Builtin.zeroCells (z.map (ren ρ)).toArray n = ((repeatL z n).map (ren ρ)).toArray := by
  have := zeros_eq (ρ := ρ) hz n
  simp only [Builtin.zeroCells]
  simpa using this

theorem isIntT_run {u : TypeId} {w : World} {d : TypeDesc} (hu : P.underlying u = some d) : (do pure ((← underlying u) matches .int _) : Sem Bool).run P w = .ok (isIntT P u) w := by
  simp only [Sem.run_bind, run_und hu, Result.andThen_ok, isIntT, hu]
  cases d <;> rfl
theorem isIntT_some {u : TypeId} (h : isIntT P u = true) : ∃ k, P.underlying u = some (.int k) := by
  unfold isIntT at h
  split at h
  · rename_i k hu
    exact ⟨k, hu⟩
  · cases h
theorem wrap_small {k : Nat} (hk : k ≤ 70368744177664) : IntKind.i64.wrap (k : Int) = k := by
  unfold IntKind.wrap IntKind.bits IntKind.signed
  simp only [Bool.true_and, decide_eq_true_eq]
  split <;> omega

section
variable {ρ : Env} {H : Heap} {w : World} {t u ty e : TypeId} {b : Nat} {z : List AV} {y : AV} {k : Nat} {new : List AV} {base : Option Addr} {len cap : Nat}
theorem append_room (h : HRel ρ H w) (hu : P.underlying t = some (.slice e)) (hz : zcellsA P e = some z) (hb : bytA P e = some b) (src : AppSrc P e z.length b z ρ H u y k new) (hc : len + k ≤ cap) :
    (Builtin.append_ #[t, u] ty #[.slice base len cap, ren ρ y]).run P w = (match base with | some a => (storeCells (a.add (len * z.length)) (new.map (ren ρ))).run P w | none => .ok () w).andThen fun _ w' => .ok (.slice base (len + k) cap) w' := by
  obtain ⟨v, z1, z2, z3, z4⟩ := zcellsA_some hz
  obtain ⟨z5, z6⟩ := run_zero (ρ := ρ) (w := w) z1
  obtain ⟨i, b1, b2⟩ := run_bytes (w := w) hb
  cases src with
  | read hd hl hf =>
    obtain ⟨e2, _⟩ := firstA_run (P := P) h rfl hf
    have e3 := lenA_run (P := P) (ρ := ρ) (w := w) hl
    unfold isSeqT at hd
    split at hd
    · rename_i e' hd'
      simp [Builtin.append_, run_und hu, run_siz z3, run_und hd', e3, hc, e2]
      cases base <;> simp
    · rename_i hd'
      simp [Builtin.append_, run_und hu, run_siz z3, run_und hd', e3, hc, e2]
      cases base <;> simp
    · cases hd
  | zeros hi hy hk hkb hn =>
    obtain ⟨kk, hd⟩ := isIntT_some hi
    have hw := wrap_small hk
    subst hy hn
    have hng : ¬ ((k : Int) < 0) := by omega
    have hnb : ¬ ((k : Int) * (i.bytes : Int) > 281474976710656) := by rw [b2]; omega
    have hnb' : ¬ (281474976710656 < (k : Int) * (i.bytes : Int)) := hnb
    simp [Builtin.append_, run_und hu, run_siz z3, run_und hd, ren, asInt, asIntOf, hw, b1, hnb', hc, hng]
    by_cases h0 : k = 0 ∨ z.length = 0
    · have hk0 : k = 0 := by omega
      subst hk0
      simp [repeatL]
      cases base <;> simp [storeCells]
    · simp only [h0, if_false, z5, Result.andThen_ok]
      rw [ren_cells, z2, zeroCells_eq z4]
      have h0' : ¬ (k * z.length = 0) := fun hh => h0 (Nat.mul_eq_zero.1 hh)
      cases base <;> simp [h0']
/-- Where there is no room: a new row. -/
theorem append_grow (h : HRel ρ H w) (hu : P.underlying t = some (.slice e)) (hz : zcellsA P e = some z) (hb : bytA P e = some b) (hb0 : 0 < b) (src : AppSrc P e z.length b z ρ H u y k new) (hl : new.length = k * z.length) (hc : cap < len + k) (hn : (len + k) * b ≤ 70368744177664) (hn' : len + k ≤ 70368744177664)
    {old : List AV} (hold : ∀ w1 : World, w1.heap = w.heap → (Builtin.firstCells z.length len (.slice base len cap)).run P w1 = .ok (old.map (ren ρ)).toArray w1) (hol : old.length = len * z.length) :
    ∃ (nc : Nat) (arr : Array Value) (w1 : World), (Builtin.append_ #[t, u] ty #[.slice base len cap, ren ρ y]).run P w = .ok (.slice (some ⟨w.heap.size, 0, none⟩) (len + k) nc) (w1.alloc (.cells arr e)) ∧ (w1.heap = w.heap ∧ w1.os = w.os ∧ w1.tape = w.tape ∧ w1.output = w.output) ∧
      arr.size = nc * z.length ∧ len + k ≤ nc ∧ (∀ (i : Nat) (v : AV), (old ++ new)[i]? = some v → v = .junk ∨ arr[i]? = some (ren ρ v)) := by
  obtain ⟨v, z1, z2, z3, z4⟩ := zcellsA_some hz
  have z5 := fun w1 : World => (run_zero (P := P) (ρ := ρ) (w := w1) z1).1
  have hi' : ∃ i, P.info? e = some i ∧ i.bytes = b := by
    unfold bytA at hb
    cases hi : P.info? e with
    | none => simp [hi] at hb
    | some i => simp [hi] at hb; exact ⟨i, rfl, hb⟩
  obtain ⟨i, b0, b2⟩ := hi'
  have b1 : ∀ w1 : World, (typeInfo e).run P w1 = .ok i w1 := fun w1 => by simp [typeInfo, b0]
  have hbig : ¬ (Builtin.nextslicecap (len + k) cap * i.bytes > 281474976710656) := by
    rw [b2]
    have := growslice_fits (need := len + k) (old := cap) (bytes := b) hc (by omega)
    omega
  have hmax : ¬ ((len : Int) + (k : Int) > 9223372036854775807) := by omega
  have hnc : len + k ≤ (Question.appendCap (len + k) cap e).cut (w.tape w.drawn (.appendCap (len + k) cap e)) := by simp [Question.cut]
  generalize hcap : (Question.appendCap (len + k) cap e).cut (w.tape w.drawn (.appendCap (len + k) cap e)) = nc at hnc
  have hforced : (Question.appendCap (len + k) cap e).forced = false := rfl
  have hzc : ∀ n, Builtin.zeroCells (ren ρ v).cells n = ((repeatL z n).map (ren ρ)).toArray := fun n => by rw [ren_cells, z2, zeroCells_eq z4]
  have hnot : ¬ (len + k ≤ cap) := by omega
  have hnew : ∀ (i : Nat) (v : AV), (old ++ new)[i]? = some v → v = .junk ∨ ((old.map (ren ρ)).toArray ++ (new.map (ren ρ)).toArray ++ ((repeatL z (nc - (len + k))).map (ren ρ)).toArray)[i]? = some (ren ρ v) := by
    intro i v hv
    have hlt := (List.getElem?_eq_some_iff.1 hv).1
    have : ((old.map (ren ρ)).toArray ++ (new.map (ren ρ)).toArray ++ ((repeatL z (nc - (len + k))).map (ren ρ)).toArray) = (((old ++ new) ++ repeatL z (nc - (len + k))).map (ren ρ)).toArray := by simp
    rw [this]
    refine list_get i v ?_
    rw [List.getElem?_append_left hlt]
    exact hv
  have hsz : ((old.map (ren ρ)).toArray ++ (new.map (ren ρ)).toArray ++ ((repeatL z (nc - (len + k))).map (ren ρ)).toArray).size = nc * z.length := by
    simp only [Array.size_append, List.size_toArray, List.length_map, hol, hl, repeatL_length, ← Nat.add_mul]
    congr 1
    omega
  refine ⟨nc, (old.map (ren ρ)).toArray ++ (new.map (ren ρ)).toArray ++ ((repeatL z (nc - (len + k))).map (ren ρ)).toArray, w.drew, ?_, ⟨rfl, rfl, rfl, rfl⟩, hsz, hnc, hnew⟩
  have hdrew : w.drew.heap = w.heap := rfl
  have e4 := hold w.drew rfl
  cases src with
  | read hd hl hf =>
    have e2 := (firstA_run (P := P) h hdrew hf).1
    have e3 := lenA_run (P := P) (ρ := ρ) (w := w) hl
    have z6 := z5 w.drew
    unfold isSeqT at hd
    split at hd
    · rename_i e' hd'
      simp [Builtin.append_, run_und hu, run_siz z3, run_und hd', e3, hnot, b1, hmax, hbig, hforced, hcap]
      simp [e4, e2, z6, hzc, newRow_run]
    · rename_i hd'
      simp [Builtin.append_, run_und hu, run_siz z3, run_und hd', e3, hnot, b1, hmax, hbig, hforced, hcap]
      simp [e4, e2, z6, hzc, newRow_run]
    · cases hd
  | zeros hi hy hk hkb hn =>
    obtain ⟨kk, hd⟩ := isIntT_some hi
    have hw := wrap_small hk
    subst hy hn
    have z6 := z5 w.drew
    have hng : ¬ ((k : Int) < 0) := by omega
    have hnb' : ¬ (281474976710656 < (k : Int) * (i.bytes : Int)) := by rw [b2]; omega
    simp [Builtin.append_, run_und hu, run_siz z3, run_und hd, ren, asInt, asIntOf, hw, b1, hnb', hng, hnot, hmax, hbig, hforced, hcap]
    by_cases h0 : k * z.length = 0
    · have hk0 : k = 0 := by
        rcases Nat.mul_eq_zero.1 h0 with h | h
        · exact h
        · omega
      subst hk0
      simp [e4, z6, hzc, newRow_run, repeatL]
    · have h1 : ¬ (k = 0 ∨ z.length = 0) := fun hh => h0 (Nat.mul_eq_zero.2 hh)
      simp [e4, z6, hzc, newRow_run, h0, h1]
end

theorem src_bd {ρ : Env} {H : Heap} {w : World} {u e : TypeId} {b : Nat} {z : List AV} {y : AV} {k : Nat} {new : List AV} (h : HRel ρ H w) (hz : zcellsA P e = some z) (src : AppSrc P e z.length b z ρ H u y k new) : ∀ v ∈ new, v.bd H.next := by
  cases src with
  | read hd hl hf => exact (firstA_run (P := P) h rfl hf).2
  | zeros hi hy hk hkb hn =>
    subst hn
    obtain ⟨v, z1, z2, z3, z4⟩ := zcellsA_some hz
    intro x hx
    have := repeatL_mem z k x hx
    rw [← z2] at this
    exact cells_bd ((run_zero (P := P) (ρ := ρ) (w := w) z1).2 _) x this

theorem appendA_sound {ρ : Env} {H H' : Heap} {w : World} (h : HRel ρ H w) {t u ty e : TypeId} {x y v : AV} {k b : Nat} {z new : List AV} (hu : P.underlying t = some (.slice e)) (hz : zcellsA P e = some z) (hb : bytA P e = some b) (hbx : x.bd H.next)
    (src : AppSrc P e z.length b z ρ H u y k new) (hx : appendA P e x k new H = some (v, H')) :
    ∃ ρ' w', (Builtin.append_ #[t, u] ty #[ren ρ x, ren ρ y]).run P w = .ok (ren ρ' v) w' ∧ Sim ρ H w ρ' H' w' ∧ v.bd H'.next := by
  have hnb := src_bd h hz src
  obtain ⟨zv, z1, z2, z3, z4⟩ := zcellsA_some hz
  unfold appendA at hx
  rw [hz, hb] at hx
  simp only at hx
  split at hx
  · rename_i hlen
    obtain ⟨hl, hall⟩ := hlen
    -- a new row, old cells ahead
    have grow : ∀ (base : Option Addr) (len cap : Nat) (old : List AV), ren ρ x = .slice base len cap → cap < len + k → 0 < b → (len + k) * b ≤ 70368744177664 → len + k ≤ 70368744177664 → old.length = len * z.length → (∀ v ∈ old, v.bd H.next) →
        (∀ w1 : World, w1.heap = w.heap → (Builtin.firstCells z.length len (.slice base len cap)).run P w1 = .ok (old.map (ren ρ)).toArray w1) →
        ∃ ρ' w', (Builtin.append_ #[t, u] ty #[ren ρ x, ren ρ y]).run P w = .ok (ren ρ' (.sl H.next 0 (len + k) (.tail z.length))) w' ∧ Sim ρ H w ρ' (H.alloc (.row (old ++ new) .no e)) w' := by
      intro base len cap old hr hc hb0 hn hn' hol hob hold
      obtain ⟨nc, arr, w1, f1, f2, f3, f4, f5⟩ := append_grow (ty := ty) h hu hz hb hb0 src hl hc hn hn' hold hol
      refine ⟨_, _, ?_, Sim.newRow h f2 (cs := old ++ new) (full := .no) (arr := arr) ?_ (fun hf => absurd rfl hf) ?_ f5⟩
      · rw [hr, f1]
        simp [ren, add_base, f3, Nat.mul_div_cancel _ z4]
      · intro v hv
        rcases List.mem_append.1 hv with hv | hv
        · exact hob v hv
        · exact hnb v hv
      · rw [f3, List.length_append, hol, hl, ← Nat.add_mul]
        exact Nat.mul_le_mul_right _ f4
    obtain ⟨hnr, hnrb⟩ := normCap_ren h x
    replace hbx := hnrb _ hbx
    rw [← hnr]
    rw [← hnr] at grow
    generalize normCap H x = x at *
    split at hx
    · -- nil
      split at hx
      · rename_i h0
        injection hx with hx
        injection hx with hx1 hx2
        subst hx1 hx2
        refine ⟨ρ, w, ?_, Sim.refl h, by simp [AV.bd]⟩
        have := append_room (ty := ty) (base := none) (len := 0) (cap := 0) h hu hz hb src (by omega)
        simp only [ren] at this ⊢
        rw [this, h0]
        rfl
      · split at hx
        · rename_i h0 hc
          injection hx with hx
          injection hx with hx1 hx2
          subst hx1 hx2
          obtain ⟨ρ', w', e1, e2⟩ := grow none 0 0 [] (by simp [ren]) (by omega) hc.1 (by simpa using hc.2.1) (by simpa using hc.2.2) (by simp) (by simp) (fun w1 _ => by simp [Builtin.firstCells])
          simp only [Nat.zero_add, List.nil_append] at e1 e2
          exact ⟨ρ', w', e1, e2, by simp [AV.bd]⟩
        · cases hx
    · -- empty
      split at hx
      · rename_i id h0
        injection hx with hx
        injection hx with hx1 hx2
        subst hx1 hx2 h0
        refine ⟨ρ, w, ?_, Sim.refl h, by simpa [AV.bd] using hbx⟩
        have := append_room (ty := ty) (base := some (ρ.emp id).1) (len := 0) (cap := (ρ.emp id).2) h hu hz hb src (by omega)
        have hn0 : new = [] := List.eq_nil_of_length_eq_zero (by simpa using hl)
        subst hn0
        simp only [ren] at this ⊢
        rw [this]
        simp [storeCells]
      · cases hx
    · -- an exact capacity
      rename_i id off len n
      split at hx
      · rename_i hle
        split at hx
        · rename_i h0
          injection hx with hx
          injection hx with hx1 hx2
          subst hx1 hx2 h0
          refine ⟨ρ, w, ?_, Sim.refl h, by simpa [AV.bd] using hbx⟩
          have hn0 : new = [] := List.eq_nil_of_length_eq_zero (by simpa using hl)
          subst hn0
          have := append_room (ty := ty) (base := (ρ.addr id).map (·.add off)) (len := len) (cap := n) h hu hz hb src hle
          simp only [ren] at this ⊢
          rw [this]
          cases ρ.addr id <;> simp [storeCells]
        · rename_i h0
          cases hp : H.put id (off + len * z.length) new with
          | none => simp [hp] at hx
          | some H2 =>
            simp [hp] at hx
            obtain ⟨hx1, hx2⟩ := hx
            subst hx1 hx2
            obtain ⟨blk, w', g1, g2, g3⟩ := put_sound (P := P) h hnb hp
            refine ⟨ρ, w', ?_, g3, AV.bd_mono g3.next _ (by simpa [AV.bd] using hbx)⟩
            have := append_room (ty := ty) (base := some (⟨blk, off, none⟩ : Addr)) (len := len) (cap := n) h hu hz hb src hle
            have ha : (⟨blk, off, none⟩ : Addr).add (len * z.length) = ⟨blk, off + len * z.length, none⟩ := by unfold Addr.add; split <;> simp_all
            simp only [ren, g1, Option.map_some, add_base] at this ⊢
            rw [this]
            simp only [ha, g2, Result.andThen_ok]
      · split at hx
        · rename_i hle hc
          obtain ⟨c1, c2, c3⟩ := hc
          by_cases hl0 : len = 0
          · subst hl0
            simp at hx
            obtain ⟨hx1, hx2⟩ := hx
            subst hx1 hx2
            obtain ⟨ρ', w', e1, e2⟩ := grow ((ρ.addr id).map (·.add off)) 0 n [] (by simp [ren]) (by omega) c1 (by simpa using c2) (by simpa using c3) (by simp) (by simp) (fun w1 _ => by cases ρ.addr id <;> simp [Builtin.firstCells, loadCells, loadCellsFrom])
            simp only [Nat.zero_add, List.nil_append] at e1 e2
            exact ⟨ρ', w', e1, e2, by simp [AV.bd]⟩
          · rw [if_neg hl0] at hx
            cases hcs : H.cells id with
            | none => simp [hcs] at hx
            | some cs =>
              simp only [hcs] at hx
              cases hld : loadN cs off (len * z.length) with
              | none => simp [hld] at hx
              | some old =>
                simp [hld] at hx
                obtain ⟨hx1, hx2⟩ := hx
                subst hx1 hx2
                have hfa : firstA z.length len (.sl id off len (.exact n)) H = some old := by simp [firstA, hcs, hld]
                obtain ⟨f1, f2, f3, f4⟩ := loadN_some hld
                obtain ⟨ρ', w', e1, e2⟩ := grow ((ρ.addr id).map (·.add off)) len n old (by simp [ren]) (by omega) c1 c2 c3 f2 (firstA_run (P := P) h rfl hfa).2 (fun w1 hw1 => by
                  have := (firstA_run (P := P) h hw1 hfa).1
                  simpa [ren] using this)
                exact ⟨ρ', w', e1, e2, by simp [AV.bd]⟩
        · cases hx
    · -- up to the end
      rename_i id off len z'
      split at hx
      · rename_i h0
        subst h0
        split at hx
        · rename_i cs full e' hg
          split at hx
          · rename_i hc
            obtain ⟨c1, c2, c3, c4, c5, c6⟩ := hc
            subst c1 c2
            obtain ⟨blk, e1, e2, arr, fr, e3, e4, e5, e6, e6', e7, e8⟩ := h.own id _ hg rfl
            have hrs : ρ.rs id = arr.size := e4.symm
            have hcap : len ≤ ρ.rs id / z.length := by
              rw [Nat.le_div_iff_mul_le z4]
              omega
            have hr : ren ρ (.sl id 0 len (.tail z.length)) = .slice (some ⟨blk, 0, none⟩) len (ρ.rs id / z.length) := by simp [ren, e1, add_base]
            split at hx
            · rename_i k0
              injection hx with hx
              injection hx with hx1 hx2
              subst hx1 hx2 k0
              refine ⟨ρ, w, ?_, Sim.refl h, by simpa [AV.bd] using hbx⟩
              have hn0 : new = [] := List.eq_nil_of_length_eq_zero (by simpa using hl)
              subst hn0
              have := append_room (ty := ty) (base := some (⟨blk, 0, none⟩ : Addr)) (len := len) (cap := ρ.rs id / z.length) h hu hz hb src (by omega)
              rw [hr, this]
              simp [storeCells]
            · rename_i k0
              split at hx
              · rename_i hfull
                obtain ⟨hfull, hallc⟩ := hfull
                injection hx with hx
                injection hx with hx1 hx2
                subst hx1 hx2
                by_cases hroom : len + k ≤ ρ.rs id / z.length
                · -- in place
                  have hfit : (len + k) * z.length ≤ arr.size := by
                    have := (Nat.le_div_iff_mul_le z4).1 hroom
                    omega
                  obtain ⟨w', arr', f1, f2, f3, f4, f5, f6, f7, f8, f9⟩ := run_storeCells (P := P) (b := blk) (off := len * z.length) (new.map (ren ρ)) 0 w arr (all_cell hall) e3 (by simp [hl]; rw [← Nat.add_mul]; exact hfit) (unfrozen e5)
                  have hext := Env.set_ext ρ H.next (some ⟨blk, 0, none⟩) arr.size (⟨0, 0, none⟩, 0)
                  refine ⟨ρ.set H.next (some ⟨blk, 0, none⟩) arr.size (⟨0, 0, none⟩, 0), w', ?_, Sim.taken h hg rfl e1 rfl ?_ ⟨arr', fr, f4, f5, by rw [f5]; exact e5, (fun hf => absurd rfl hf), (fun hf => by cases hf), ?_, ?_⟩ f2 f3 f7 f8 f9, by simp [AV.bd]⟩
                  · have := append_room (ty := ty) (base := some (⟨blk, 0, none⟩ : Addr)) (len := len) (cap := ρ.rs id / z.length) h hu hz hb src hroom
                    rw [hr, this]
                    simp only [add_base, f1, Result.andThen_ok]
                    simp [ren, add_base, hrs]
                  · intro v hv
                    rcases List.mem_append.1 hv with hv | hv
                    · exact h.bd id _ hg v hv
                    · exact hnb v hv
                  · rw [f5, List.length_append, hfull, hl, ← Nat.add_mul]
                    exact hfit
                  · intro i v hv
                    have hbdv : v.bd H.next := by
                      rcases List.mem_append.1 (List.mem_of_getElem? hv) with hv | hv
                      · exact h.bd id _ hg v hv
                      · exact hnb v hv
                    rw [ren_ext hext v hbdv, f6 i]
                    simp only [Nat.add_zero, List.length_map]
                    have hilt := (List.getElem?_eq_some_iff.1 hv).1
                    simp only [List.length_append] at hilt
                    by_cases hi : i < len * z.length
                    · rw [if_neg (by omega)]
                      rw [List.getElem?_append_left (by omega)] at hv
                      exact e8 i v hv
                    · rw [if_pos (by omega)]
                      rw [List.getElem?_append_right (by omega), hfull] at hv
                      rw [List.getElem?_map, hv]
                      exact .inr rfl
                · -- a new row: the old one is given up
                  have hfa : firstA z.length len (.sl id 0 len (.tail z.length)) H = some cs := by
                    have hcs : H.cells id = some cs := by unfold Heap.cells; rw [hg]
                    simpa [firstA, hcs, loadN, ← hfull] using hallc
                  have hd := h.drop id (fun o ho => by rw [hg] at ho; injection ho with ho; subst ho; rfl)
                  have hcs2 : ∀ v ∈ cs, v.bd H.next := h.bd id _ hg
                  obtain ⟨nc, arr2, w1, g1, g2, g3, g4, g5⟩ := append_grow (ty := ty) (base := some ⟨blk, 0, none⟩) (len := len) (cap := ρ.rs id / z.length) h hu hz hb c4 src hl (by omega) c5 c6 (old := cs) (fun w1 hw1 => by
                    have := (firstA_run (P := P) h hw1 hfa).1
                    rw [hr] at this
                    exact this) hfull
                  have hs := Sim.newRow (w := w) hd.rel g2 (cs := cs ++ new) (full := .no) (e := e') (arr := arr2) (by
                    intro v hv
                    rcases List.mem_append.1 hv with hv | hv
                    · exact hcs2 v hv
                    · exact hnb v hv) (fun hf => absurd rfl hf) (by rw [g3, List.length_append, hfull, hl, ← Nat.add_mul]; exact Nat.mul_le_mul_right _ g4) g5
                  refine ⟨_, _, ?_, hd.trans hs, by simp [AV.bd]⟩
                  rw [hr, g1]
                  simp [ren, add_base, g3, Nat.mul_div_cancel _ z4]
              · split at hx
                · rename_i hnf hle
                  cases hp : H.put id (len * z.length) new with
                  | none => simp [hp] at hx
                  | some H2 =>
                    simp [hp] at hx
                    obtain ⟨hx1, hx2⟩ := hx
                    subst hx1 hx2
                    obtain ⟨blk', w', g1, g2, g3⟩ := put_sound (P := P) h hnb hp
                    rw [e1] at g1
                    injection g1 with g1
                    injection g1 with g1
                    subst g1
                    have hroom : len + k ≤ ρ.rs id / z.length := by
                      rw [Nat.le_div_iff_mul_le z4]
                      omega
                    refine ⟨ρ, w', ?_, g3, AV.bd_mono g3.next _ (by simpa [AV.bd] using hbx)⟩
                    have := append_room (ty := ty) (base := some (⟨blk, 0, none⟩ : Addr)) (len := len) (cap := ρ.rs id / z.length) h hu hz hb src hroom
                    rw [hr, this]
                    simp only [add_base, g2, Result.andThen_ok]
                    simp [ren, e1, add_base]
                · cases hx
          · cases hx
        · cases hx
      · cases hx
    · cases hx
  · cases hx

end Go.Proofs.YtlcfkeigipkhlaaGreatDoorAbs
