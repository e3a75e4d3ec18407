/- Single operations: cuts, conversions, append, copy. -/
import Derived.Test.YtlcfkeigipkhlaaGreatDoorOps3
set_option linter.unusedVariables false
set_option linter.unusedSimpArgs false
namespace Go.Proofs.YtlcfkeigipkhlaaGreatDoorAbs
open Go.RowKit
variable {P : Program}

theorem boundA_run {ρ : Env} {x : Option AV} {d l : Nat} {w : World} {k : BoundsCode} {y : Nat} (h : boundA x d = some l) (hl : l ≤ y) :
    (match x.map (ren ρ) with | some v => Instr.sliceBound v y k | none => pure d : Sem Nat).run P w = .ok l w := by
  unfold boundA at h
  split at h
  · injection h with h; subst h; simp
  · split at h
    · rename_i k n h0
      injection h with h
      subst h
      have h1 : n ≤ y := by omega
      simp [Instr.sliceBound, ren, asIntOf, h0, h1]
    · cases h
  · cases h
theorem sliceBounds_run {ρ : Env} {b : Bool} {lo hi : Option AV} {len cap l h : Nat} {w : World} (hlo : boundA lo 0 = some l) (hhi : boundA hi len = some h) (h1 : l ≤ h) (h2 : h ≤ cap) :
    (Instr.sliceBounds b len cap (lo.map (ren ρ)) (hi.map (ren ρ)) none).run P w = .ok (l, h, cap) w := by
  unfold Instr.sliceBounds
  simp only [Sem.run_bind, Sem.run_pure, Result.andThen_ok]
  have e1 := boundA_run (P := P) (ρ := ρ) (w := w) (k := if b then .sliceAcap else .sliceAlen) (y := cap) hhi h2
  have e2 := boundA_run (P := P) (ρ := ρ) (w := w) (k := .sliceB) (y := h) hlo h1
  cases hi <;> cases lo <;> simp_all
theorem sliceBounds_run3 {ρ : Env} {lo hi mx : Option AV} {len cap l h m : Nat} {w : World} (hlo : boundA lo 0 = some l) (hhi : boundA hi len = some h) (hs : hi.isSome = true) (hmx : boundA mx 0 = some m) (hms : mx.isSome = true) (h1 : l ≤ h) (h2 : h ≤ m) (h3 : m ≤ cap) :
    (Instr.sliceBounds true len cap (lo.map (ren ρ)) (hi.map (ren ρ)) (mx.map (ren ρ))).run P w = .ok (l, h, m) w := by
  unfold Instr.sliceBounds
  obtain ⟨mv, rfl⟩ := Option.isSome_iff_exists.1 hms
  obtain ⟨hv, rfl⟩ := Option.isSome_iff_exists.1 hs
  have e0 := boundA_run (P := P) (ρ := ρ) (w := w) (k := .slice3Acap) (y := cap) hmx h3
  have e1 := boundA_run (P := P) (ρ := ρ) (w := w) (k := .slice3B) (y := m) hhi h2
  have e2 := boundA_run (P := P) (ρ := ρ) (w := w) (k := .slice3C) (y := h) hlo h1
  simp only [Option.map_some] at e0 e1 ⊢
  simp only [Sem.run_bind, if_true, e0, Result.andThen_ok, e1]
  cases lo <;> simp_all

/-- A slice over a row, as the model has it. -/
theorem sl_ren {ρ : Env} {H : Heap} {w : World} (h : HRel ρ H w) {id off len s : Nat} {c : ACap} {cs : List AV} (hc : H.cells id = some cs) (h0 : off < cs.length) :
    ∃ ad cap, ρ.addr id = some ad ∧ ren ρ (.sl id off len c) = .slice (some (ad.add off)) len cap ∧ (∀ n, c = .exact n → cap = n) ∧ (∀ z, c = .tail z → cap = (ρ.rs id - off) / z) := by
  obtain ⟨_, _, f3⟩ := h.cells hc
  obtain ⟨a, g1, _⟩ := f3 off _ (List.getElem?_eq_getElem h0)
  cases c with
  | exact n => exact ⟨a, n, g1, by simp [ren, g1], (fun n' h => by injection h), (fun z h => by cases h)⟩
  | tail z => exact ⟨a, (ρ.rs id - off) / z, g1, by simp [ren, g1], (fun n h => by cases h), (fun z' h => by injection h with h; rw [h])⟩
/-- How many cells a row's block has at least. -/
theorem rs_le {ρ : Env} {H : Heap} {w : World} (h : HRel ρ H w) {id : Nat} {cs : List AV} {f : Fill} {e : TypeId} (hg : H.get id = some (.row cs f e)) : cs.length ≤ ρ.rs id := by
  obtain ⟨b, e1, e2, arr, fr, e3, e4, e5, e6, e6', e7, e8⟩ := h.own id _ hg rfl
  omega
theorem rs_eq {ρ : Env} {H : Heap} {w : World} (h : HRel ρ H w) {id : Nat} {cs : List AV} {f : Fill} {e : TypeId} (hg : H.get id = some (.row cs f e)) (hf : f ≠ .no) : ρ.rs id = cs.length := by
  obtain ⟨b, e1, e2, arr, fr, e3, e4, e5, e6, e6', e7, e8⟩ := h.own id _ hg rfl
  have := e6 hf
  omega
theorem normCap_ren {ρ : Env} {H : Heap} {w : World} (h : HRel ρ H w) (x : AV) : ren ρ (normCap H x) = ren ρ x ∧ ∀ n, x.bd n → (normCap H x).bd n := by
  unfold normCap
  split
  · split
    · rename_i hg
      exact ⟨by simp [ren, rs_eq h hg (by simp)], fun n hn => by simpa [AV.bd] using hn⟩
    · rename_i hg
      exact ⟨by simp [ren, rs_eq h hg (by simp)], fun n hn => by simpa [AV.bd] using hn⟩
    · exact ⟨rfl, fun _ h => h⟩
  · exact ⟨rfl, fun _ h => h⟩
theorem add_zero' (a : Addr) : a.add 0 = a := by simp [Addr.add]

theorem isRow_some {H : Heap} {id : Nat} {cs : List AV} (h : H.isRow id = true) (hc : H.cells id = some cs) : ∃ f e, H.get id = some (.row cs f e) := by
  unfold Heap.isRow at h
  split at h
  · rename_i cs' f e hg
    unfold Heap.cells at hc
    rw [hg] at hc
    injection hc with hc
    subst hc
    exact ⟨f, e, hg⟩
  · cases h
theorem div_ge {a b n s : Nat} (hs : 0 < s) (h : b + n * s ≤ a) : n ≤ (a - b) / s := by
  rw [Nat.le_div_iff_mul_le hs]
  omega

theorem boundA_none {ρ : Env} {x : Option AV} {d l : Nat} (h : boundA x d = some l) : x = none ∧ l = d ∨ ∃ k n, x = some (.int k n) ∧ 0 ≤ n ∧ l = n.toNat := by
  unfold boundA at h
  split at h
  · injection h with h; exact .inl ⟨rfl, h.symm⟩
  · split at h
    · rename_i k n h0
      injection h with h
      exact .inr ⟨k, n, rfl, h0, h.symm⟩
    · cases h
  · cases h
/-- The model's cut of a slice, once its bounds are told. -/
theorem run_cut {w : World} {t e : TypeId} (hu : P.underlying t = some (.slice e)) {s : Nat} (hs : sizA P e = some s) {A : Option Addr} {len cap l h m : Nat} {lo hi mx : Option Value} (hb : (Instr.sliceBounds true len cap lo hi mx).run P w = .ok (l, h, m) w) :
    (Instr.slice t (.slice A len cap) lo hi mx).run P w = .ok (.slice (if m = l then A else A.map (·.add (l * s))) (h - l) (m - l)) w := by
  simp only [Instr.slice, Sem.run_bind, run_und hu, Result.andThen_ok, hb, run_siz hs, Sem.run_pure]

theorem cutA_sound {ρ : Env} {H H' : Heap} {w w1 : World} (h : HRel ρ H w) {t e : TypeId} (hu : P.underlying t = some (.slice e)) {x v : AV} {lo hi mx : Option AV} (hb : x.bd H.next) (hx : cutA P e x lo hi mx H = some (v, H')) :
    ∃ ρ', (Instr.slice t (ren ρ x) (lo.map (ren ρ)) (hi.map (ren ρ)) (mx.map (ren ρ))).run P w1 = .ok (ren ρ' v) w1 ∧ Sim ρ H w ρ' H' w ∧ v.bd H'.next := by
  obtain ⟨hnr, hnb⟩ := normCap_ren h x
  replace hb := hnb _ hb
  rw [← hnr]
  unfold cutA at hx
  generalize normCap H x = x at *
  split at hx
  · rename_i s hs
    split at hx
    · -- nil
      split at hx
      · rename_i h1 h2 h3
        split at hx
        · rename_i himp
          injection hx with hx
          injection hx with hx1 hx2
          subst hx1 hx2
          refine ⟨ρ, ?_, Sim.refl h, by simp [AV.bd]⟩
          simp only [ren]
          cases mx with
          | none =>
            have := sliceBounds_run (P := P) (ρ := ρ) (b := true) (w := w1) (cap := 0) h1 h2 (Nat.le_refl 0) (Nat.le_refl 0)
            rw [Option.map_none, run_cut hu hs this]
            simp
          | some m =>
            have := sliceBounds_run3 (P := P) (ρ := ρ) (w := w1) (cap := 0) (len := 0) h1 h2 (himp rfl) h3 rfl (Nat.le_refl 0) (Nat.le_refl 0) (Nat.le_refl 0)
            rw [run_cut hu hs this]
            simp
        · cases hx
      · cases hx
    · -- an empty one
      rename_i eid
      split at hx
      · rename_i h1 h2
        injection hx with hx
        injection hx with hx1 hx2
        subst hx1 hx2
        refine ⟨ρ, ?_, Sim.refl h, by simpa [AV.bd] using hb⟩
        simp only [ren]
        have := sliceBounds_run (P := P) (ρ := ρ) (b := true) (w := w1) (cap := (ρ.emp eid).2) (len := 0) h1 h2 (Nat.le_refl 0) (Nat.zero_le _)
        rw [Option.map_none, run_cut hu hs this]
        simp [add_zero']
      · cases hx
    · rename_i id off len cap
      split at hx
      · rename_i l hh cs h1 h2 hc
        split at hx
        · rename_i hcond
          obtain ⟨c1, c2, c3⟩ := hcond
          obtain ⟨ad, rc, g1, g2, g3, g4⟩ := sl_ren h (s := s) (len := len) (c := cap) hc c2
          have hlen : ∀ z, cap = .tail z → z = s → H.isRow id = true → len ≤ rc := by
            intro z hz hzs hr
            obtain ⟨f, e', hg⟩ := isRow_some hr hc
            rw [g4 z hz, hzs]
            have := rs_le h hg
            exact div_ge c3 (by omega)
          split at hx
          · rename_i m
            split at hx
            · rename_i m' hm
              split at hx
              · rename_i hk
                obtain ⟨k1, k2, k3, k4, k5⟩ := hk
                injection hx with hx
                injection hx with hx1 hx2
                subst hx1 hx2
                refine ⟨ρ, ?_, Sim.refl h, by simpa [AV.bd] using hb⟩
                have hmc : m' ≤ rc := by
                  cases cap with
                  | exact n => rw [g3 n rfl]; simpa [ACap.may] using k5
                  | tail z =>
                    simp [ACap.may] at k5
                    have := hlen z rfl k5.1 k5.2
                    omega
                have := sliceBounds_run3 (P := P) (ρ := ρ) (w := w1) (cap := rc) (len := len) h1 h2 k2 hm rfl (by omega) k3 hmc
                rw [g2, run_cut hu hs this]
                subst k1
                simp [ren, g1, add_zero']
              · cases hx
            · cases hx
          · split at hx
            · rename_i n
              have hrc := g3 n rfl
              subst hrc
              split at hx
              · rename_i hl0
                subst hl0
                split at hx
                · rename_i hhn
                  injection hx with hx
                  injection hx with hx1 hx2
                  subst hx1 hx2
                  refine ⟨ρ, ?_, Sim.refl h, by simpa [AV.bd] using hb⟩
                  have := sliceBounds_run (P := P) (ρ := ρ) (b := true) (w := w1) (cap := rc) (len := len) h1 h2 (Nat.zero_le _) hhn
                  rw [Option.map_none, g2, run_cut hu hs this]
                  simp [ren, g1, add_zero']
                · cases hx
              · rename_i hl0
                split at hx
                · rename_i hk
                  obtain ⟨k1, k2, k3⟩ := hk
                  have := sliceBounds_run (P := P) (ρ := ρ) (b := true) (w := w1) (cap := rc) (len := len) h1 h2 k1 (by omega)
                  rw [Option.map_none, g2, run_cut hu hs this]
                  split at hx
                  · rename_i hl
                    injection hx with hx
                    injection hx with hx1 hx2
                    subst hx1 hx2
                    refine ⟨ρ, ?_, Sim.refl h, by simpa [AV.bd] using hb⟩
                    rw [if_neg (by omega)]
                    simp [ren, g1, add_add]
                  · injection hx with hx
                    injection hx with hx1 hx2
                    subst hx1 hx2
                    have hh0 : hh - l = 0 := by omega
                    refine ⟨ρ.set H.next none 0 ((if rc = l then ad.add off else (ad.add off).add (l * s)), rc - l), ?_, Sim.bump h _, by simp [AV.bd]⟩
                    simp only [ren, Env.set_emp, hh0]
                    split <;> rfl
                · cases hx
            · rename_i z
              have hrc := g4 z rfl
              split at hx
              · rename_i hk
                obtain ⟨k0, k1, k2, k3⟩ := hk
                have hle := hlen z rfl k0 k1
                have := sliceBounds_run (P := P) (ρ := ρ) (b := true) (w := w1) (cap := rc) (len := len) h1 h2 k2 (by omega)
                rw [Option.map_none, g2, run_cut hu hs this]
                split at hx
                · rename_i hl0
                  subst hl0
                  injection hx with hx
                  injection hx with hx1 hx2
                  subst hx1 hx2
                  refine ⟨ρ, ?_, Sim.refl h, by simpa [AV.bd] using hb⟩
                  simp [ren, g1, add_zero', hrc]
                · rename_i hl0
                  split at hx
                  · rename_i hl
                    injection hx with hx
                    injection hx with hx1 hx2
                    subst hx1 hx2
                    refine ⟨ρ, ?_, Sim.refl h, by simpa [AV.bd] using hb⟩
                    rw [if_neg (by omega)]
                    have hdiv : rc - l = (ρ.rs id - (off + l * s)) / z := by
                      rw [hrc, k0, Nat.sub_add_eq, Nat.mul_comm l s, Nat.sub_mul_div]
                    simp [ren, g1, add_add, hdiv]
                  · injection hx with hx
                    injection hx with hx1 hx2
                    subst hx1 hx2
                    have hh0 : hh - l = 0 := by omega
                    refine ⟨ρ.set H.next none 0 ((if rc = l then ad.add off else (ad.add off).add (l * s)), rc - l), ?_, Sim.bump h _, by simp [AV.bd]⟩
                    simp only [ren, Env.set_emp, hh0]
                    split <;> rfl
              · cases hx
        · split at hx
          · rename_i hk
            obtain ⟨k1, k2, k3, k4⟩ := hk
            subst k2 k3
            split at hx
            · rename_i n
              injection hx with hx
              injection hx with hx1 hx2
              subst hx1 hx2
              refine ⟨ρ, ?_, Sim.refl h, by simpa [AV.bd] using hb⟩
              obtain rfl : mx = none := by simpa using k4
              simp only [ren]
              have := sliceBounds_run (P := P) (ρ := ρ) (b := true) (w := w1) (cap := n) (len := len) h1 h2 (Nat.le_refl 0) (Nat.zero_le _)
              rw [Option.map_none, run_cut hu hs this]
              cases ha : ρ.addr id <;> simp [ha, add_zero']
            · cases hx
          · cases hx
      · cases hx
    · cases hx
  · cases hx

theorem sliceA_sound {ρ : Env} {H H' : Heap} {w w1 : World} (h : HRel ρ H w) {t : TypeId} {x v : AV} {lo hi mx : Option AV} (hb : x.bd H.next) (hx : sliceA P t x lo hi mx H = some (v, H')) :
    ∃ ρ', (Instr.sliceAt t (ren ρ x) (lo.map (ren ρ)) (hi.map (ren ρ)) (mx.map (ren ρ))).run P w1 = .ok (ren ρ' v) w1 ∧ Sim ρ H w ρ' H' w ∧ v.bd H'.next := by
  unfold sliceA at hx
  split at hx
  · rename_i s hu
    split at hx
    · rename_i l hh h1 h2
      split at hx
      · rename_i hk
        injection hx with hx
        injection hx with hx1 hx2
        subst hx1 hx2
        refine ⟨ρ, ?_, Sim.refl h, by simp [AV.bd]⟩
        have := sliceBounds_run (P := P) (ρ := ρ) (b := false) (w := w1) (cap := s.size) (len := s.size) h1 h2 hk.1 hk.2
        simp only [Instr.sliceAt, Sem.run_bind, run_und hu, Result.andThen_ok, ren, Instr.slice, Option.map_none, Option.isSome_none, Bool.false_eq_true, if_false, Sem.run_pure, this]
        have he : s.extract l hh = ⟨(s.data.toList.drop l |>.take (hh - l)).toArray⟩ := by
          apply ByteArray.ext
          rw [ByteArray.data_extract]
          apply Array.ext_getElem?
          intro i
          simp only [Array.getElem?_extract, List.getElem?_toArray]
          have hsz : s.data.size = s.size := rfl
          by_cases hi : i < hh - l
          · rw [if_pos (by omega), List.getElem?_take_of_lt hi, List.getElem?_drop]
            simp
          · rw [if_neg (by omega), List.getElem?_eq_none (by simp; omega)]
        rw [he]
      · cases hx
    · cases hx
  · rename_i e hu
    obtain ⟨ρ', e1, e2, e3⟩ := cutA_sound h hu hb hx
    refine ⟨ρ', ?_, e2, e3⟩
    simp only [Instr.sliceAt, Sem.run_bind, run_und hu, Result.andThen_ok]
    exact e1
  · rename_i n e id off hu
    split at hx
    · rename_i l hh s h1 h2 hs
      split at hx
      · rename_i hk
        obtain ⟨k1, k2, k3, k4⟩ := hk
        injection hx with hx
        injection hx with hx1 hx2
        subst hx1 hx2
        obtain ⟨a, ha⟩ := live_some h k4
        refine ⟨ρ, ?_, Sim.refl h, ?_⟩
        · have := sliceBounds_run (P := P) (ρ := ρ) (b := false) (w := w1) (cap := n) (len := n) h1 h2 k1 k2
          simp only [Instr.sliceAt, Sem.run_bind, run_und hu, Result.andThen_ok, ren, Option.map_none, ha, Option.map_some, Instr.sureAddr, Sem.run_pure, this, run_siz hs]
          by_cases hn : n = l
          · have hhl : hh = l := by omega
            subst hn hhl
            simp [ren, ha]
          · rw [if_neg hn, if_neg hn]
            simp [ren, ha, add_add]
        · split <;> simpa [AV.bd] using hb
      · cases hx
    · cases hx
  · cases hx

end Go.Proofs.YtlcfkeigipkhlaaGreatDoorAbs
