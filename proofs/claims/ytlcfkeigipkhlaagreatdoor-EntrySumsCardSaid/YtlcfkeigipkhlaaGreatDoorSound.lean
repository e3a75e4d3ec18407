/- The operation as a whole. -/
import Derived.Test.YtlcfkeigipkhlaaGreatDoorOps7
set_option linter.unusedVariables false
set_option linter.unusedSimpArgs false
namespace Go.Proofs.YtlcfkeigipkhlaaGreatDoorAbs
open Go.RowKit
variable {P : Program}

/-- What an operation comes to. -/
def OpOK (P : Program) (o : Oper) (a : Act) (ρ : Env) (H : Heap) (w : World) (Q : AV × Heap → Prop) : Prop :=
  ∃ v H' ρ' w', ((execOp a.eval o).run P w = .ok (.value (ren ρ' v)) w' ∨ ((execOp a.eval o).run P w = .ok .skip w' ∧ v = undefA)) ∧ Sim ρ H w ρ' H' w' ∧ v.bd H'.next ∧ Q (v, H')

theorem map_eval {ρ : Env} {n : Nat} {regs : List AV} {a : Act} (hr : RegRel ρ n regs a.tmps) {lo : Option Operand} {x : Option AV} (h : (match lo with | none => some none | some o => (evA regs o).map some) = some x) : lo.map a.eval = x.map (ren ρ) := by
  cases lo with
  | none => injection h with h; subst h; rfl
  | some o =>
    cases hv : evA regs o with
    | none => simp [hv] at h
    | some v =>
      simp [hv] at h
      subst h
      obtain ⟨e1, _⟩ := evA_ren hr hv
      simp [e1]

theorem has_some {ρ : Env} {H : Heap} {w : World} (h : HRel ρ H w) {id : Nat} (hl : H.has id = true) : ∃ a, ρ.addr id = some a := by
  unfold Heap.has at hl
  split at hl
  · rename_i hg
    obtain ⟨b, e, _⟩ := h.own id _ hg rfl
    exact ⟨_, e⟩
  · rename_i hg
    exact h.roa id _ hg
  · rename_i hg
    obtain ⟨b, e, _⟩ := h.own id _ hg rfl
    exact ⟨_, e⟩
  · rename_i hg
    obtain ⟨b, e, _⟩ := h.rom id _ hg
    exact ⟨_, e⟩
  · cases hl

theorem nonNil_sound {ρ : Env} {H : Heap} {w w1 : World} (h : HRel ρ H w) {op : BinOp} {t : TypeId} {xo yo : Operand} {x y : AV} (hx : nonNil P t H x y = true) :
    (eqGuard op t xo yo (ren ρ x) (ren ρ y)).run P w1 = .ok () w1 ∧ (Op.equal t (ren ρ x) (ren ρ y)).run P w1 = .ok false w1 ∧ ByEqual (ren ρ x) (ren ρ y) := by
  unfold Op.equal Op.maxDepth
  rw [show (10000 : Nat) = 9999 + 1 from rfl]
  generalize (9999 : Nat) = d
  unfold nonNil at hx
  split at hx
  · rename_i e id off len c hu
    obtain ⟨a, ha⟩ := has_some h hx
    cases c <;> exact ⟨by cases op <;> simp [eqGuard, ren, ha], by simp [Op.equalIn, run_und hu, ren, ha], by intro t'; constructor <;> simp [binOp, ren, ha]⟩
  · rename_i e id hu
    exact ⟨by cases op <;> simp [eqGuard, ren], by simp [Op.equalIn, run_und hu, ren], by intro t'; constructor <;> simp [binOp, ren]⟩
  · rename_i e id off hu
    obtain ⟨a, ha⟩ := has_some h hx
    exact ⟨by cases op <;> simp [eqGuard, ren, ha], by simp [Op.equalIn, run_und hu, ren, ha], by intro t'; constructor <;> simp [binOp, ren, ha]⟩
  · rename_i e id off hu
    exact ⟨by cases op <;> simp [eqGuard, ren], by simp [Op.equalIn, run_und hu, ren], by intro t'; constructor <;> simp [binOp, ren]⟩
  · rename_i k e id hu
    obtain ⟨a, ha⟩ := has_some h hx
    exact ⟨by cases op <;> simp [eqGuard, ren, ha], by simp [Op.equalIn, run_und hu, ren, ha], by intro t'; constructor <;> simp [binOp, ren, ha]⟩
  · cases hx

theorem bothNil_sound {ρ : Env} {w : World} {op : BinOp} {t : TypeId} {xo yo : Operand} {x y : AV} (hx : bothNil P t x y = true) :
    (eqGuard op t xo yo (ren ρ x) (ren ρ y)).run P w = .ok () w ∧ (Op.equal t (ren ρ x) (ren ρ y)).run P w = .ok true w ∧ ByEqual (ren ρ x) (ren ρ y) := by
  unfold Op.equal Op.maxDepth
  rw [show (10000 : Nat) = 9999 + 1 from rfl]
  generalize (9999 : Nat) = d
  unfold bothNil at hx
  split at hx
  · rename_i k e hu
    exact ⟨by cases op <;> simp [eqGuard, ren], by simp [Op.equalIn, run_und hu, ren], by intro t'; constructor <;> simp [binOp, ren]⟩
  · cases hx

theorem vsNilA_sound {ρ : Env} {H : Heap} {w w1 : World} (h : HRel ρ H w) {op : BinOp} {t : TypeId} {xo yo : Operand} {x y v : AV} (hx : vsNilA P op t H x y = some v) :
    (do eqGuard op t xo yo (ren ρ x) (ren ρ y); binOp op t (ren ρ x) (ren ρ y) : Sem Value).run P w1 = .ok (ren ρ v) w1 ∧ ∀ n, v.bd n := by
  unfold vsNilA at hx
  split at hx
  · split at hx
    · rename_i hn
      injection hx with hx
      subst hx
      obtain ⟨e1, e2, e3⟩ := nonNil_sound (w1 := w1) h (op := .eql) (xo := xo) (yo := yo) hn
      exact ⟨by simp [e1, (e3.run e2).1, ren], fun n => by simp [AV.bd]⟩
    · split at hx
      · rename_i hn
        injection hx with hx
        subst hx
        obtain ⟨e1, e2, e3⟩ := bothNil_sound (ρ := ρ) (w := w1) (op := .eql) (xo := xo) (yo := yo) hn
        exact ⟨by simp [e1, (e3.run e2).1, ren], fun n => by simp [AV.bd]⟩
      · cases hx
  · split at hx
    · rename_i hn
      injection hx with hx
      subst hx
      obtain ⟨e1, e2, e3⟩ := nonNil_sound (w1 := w1) h (op := .neq) (xo := xo) (yo := yo) hn
      exact ⟨by simp [e1, (e3.run e2).2, ren], fun n => by simp [AV.bd]⟩
    · split at hx
      · rename_i hn
        injection hx with hx
        subst hx
        obtain ⟨e1, e2, e3⟩ := bothNil_sound (ρ := ρ) (w := w1) (op := .neq) (xo := xo) (yo := yo) hn
        exact ⟨by simp [e1, (e3.run e2).2, ren], fun n => by simp [AV.bd]⟩
      · cases hx
  · cases hx

theorem opA_sound {ρ : Env} {H : Heap} {w : World} {o : Oper} {a : Act} {regs : List AV} {Q : AV × Heap → Prop} (h : HRel ρ H w) (hr : RegRel ρ H.next regs a.tmps) (hx : (opA P o regs H).all Q) : OpOK P o a ρ H w Q := by
  have pureV : ∀ (s : Sem Value) (v : AV), (execOp a.eval o).run P w = (s.run P w).andThen (fun v w' => .ok (.value v) w') → s.run P w = .ok (ren ρ v) w → v.bd H.next → Q (v, H) → OpOK P o a ρ H w Q := by
    intro s v h1 h2 h3 h4
    exact ⟨v, H, ρ, w, .inl (by rw [h1, h2]; rfl), Sim.refl h, h3, h4⟩
  have memV : ∀ (s : Sem Value) (v : AV) (H' : Heap), (execOp a.eval o).run P w = (s.run P w).andThen (fun v w' => .ok (.value v) w') → (∃ ρ' w', s.run P w = .ok (ren ρ' v) w' ∧ Sim ρ H w ρ' H' w' ∧ v.bd H'.next) → Q (v, H') → OpOK P o a ρ H w Q := by
    rintro s v H' h1 ⟨ρ', w', e1, e2, e3⟩ h4
    exact ⟨v, H', ρ', w', .inl (by rw [h1, e1]; rfl), e2, e3, h4⟩
  have memU : ∀ (s : Sem Unit) (H' : Heap), (execOp a.eval o).run P w = (s.run P w).andThen (fun _ w' => .ok .skip w') → (∃ w', s.run P w = .ok () w' ∧ Sim ρ H w ρ H' w') → Q (undefA, H') → OpOK P o a ρ H w Q := by
    rintro s H' h1 ⟨w', e1, e2⟩ h4
    exact ⟨undefA, H', ρ, w', .inr ⟨by rw [h1, e1]; rfl, rfl⟩, e2, by simp [undefA, AV.bd], h4⟩
  have hev : ∀ {x : Operand} {v : AV}, evA regs x = some v → a.eval x = ren ρ v ∧ v.bd H.next := fun hv => let ⟨e1, e2, _⟩ := evA_ren hr hv; ⟨e1, e2⟩
  unfold opA at hx
  split at hx
  · rename_i x ho
    obtain ⟨v, h1, hq⟩ := ofO_all hx
    obtain ⟨e1, e2⟩ := hev h1
    exact pureV (pure (a.eval x)) v (by simp [execOp, ho]) (by simp [e1]) e2 hq
  · rename_i x ho
    obtain ⟨v, h1, hq⟩ := ofO_all hx
    obtain ⟨e1, e2⟩ := hev h1
    exact pureV (pure (a.eval x)) v (by simp [execOp, ho]) (by simp [e1]) e2 hq
  · rename_i c x y ho
    obtain ⟨cv, h0, hq⟩ := ofO_all hx
    obtain ⟨e0, _⟩ := hev h0
    split at hq
    · rename_i t
      split at hq
      · rename_i ht
        obtain ⟨v, h1, hq⟩ := ofO_all hq
        obtain ⟨e1, e2⟩ := hev h1
        exact pureV (pure (a.eval x)) v (by simp [execOp, ho, e0, ren, asBool, ht]) (by simp [e1]) e2 hq
      · rename_i ht
        obtain ⟨v, h1, hq⟩ := ofO_all hq
        obtain ⟨e1, e2⟩ := hev h1
        exact pureV (pure (a.eval y)) v (by simp [execOp, ho, e0, ren, asBool, ht]) (by simp [e1]) e2 hq
    · exact hq.elim
  · rename_i t ho
    obtain ⟨z, h0, hq⟩ := ofO_all hx
    obtain ⟨p, h1, hq⟩ := ofO_all hq
    obtain ⟨x, H'⟩ := p
    obtain ⟨z1, z2⟩ := run_zero (P := P) (ρ := ρ) (w := w) h0
    obtain ⟨ρ', w', e1, e2, e3, e4⟩ := newA_sound (P := P) (t := t) h (z2 _) h1
    exact memV (Instr.alloc t true (.tuple #[])) x H' (by simp [execOp, ho]) ⟨ρ', w', by simp [Instr.alloc, z1, e1, e2], e3, e4⟩ hq
  · rename_i t x ho
    obtain ⟨v, h0, hq⟩ := ofO_all hx
    obtain ⟨e0, e00⟩ := hev h0
    obtain ⟨p, h1, hq⟩ := ofO_all hq
    obtain ⟨y, H'⟩ := p
    obtain ⟨ρ', w', e1, e2, e3, e4⟩ := newA_sound (P := P) (t := t) h e00 h1
    exact memV (Instr.box t (a.eval x)) y H' (by simp [execOp, ho]) ⟨ρ', w', by simp [Instr.box, e0, e1, e2], e3, e4⟩ hq
  · rename_i t ps ho
    obtain ⟨vs, h0, hq⟩ := ofO_all hx
    obtain ⟨v, h1, hq⟩ := ofO_all hq
    obtain ⟨e1, e2⟩ := evParts_ren hr h0
    obtain ⟨f1, f2⟩ := buildA_sound (P := P) (w := w) (ρ := ρ) e2 h1
    have hm : ps.map (fun x => (x.1, a.eval x.2)) = (vs.map fun p => (p.1, ren ρ p.2)).toArray := by
      rw [← e1]; apply Array.ext'; simp
    exact pureV (Instr.build t (ps.map fun (i, x) => (i, a.eval x))) v (by simp [execOp, ho]) (by rw [← f1, ← hm]) f2 hq
  · rename_i t n ps ho
    obtain ⟨vs, h0, hq⟩ := ofO_all hx
    obtain ⟨p, h1, hq⟩ := ofO_all hq
    obtain ⟨v, H'⟩ := p
    obtain ⟨e1, e2⟩ := evParts_ren hr h0
    have hm : ps.map (fun x => (x.1, a.eval x.2)) = (vs.map fun p => (p.1, ren ρ p.2)).toArray := by
      rw [← e1]; apply Array.ext'; simp
    exact memV (Instr.buildSlice t n (ps.map fun (i, x) => (i, a.eval x))) v H' (by simp [execOp, ho]) (by have := buildSliceA_sound (P := P) h e2 h1; rw [← hm] at this; exact this) hq
  · rename_i t x ho
    obtain ⟨v, h0, hq⟩ := ofO_all hx
    obtain ⟨e0, e00⟩ := hev h0
    obtain ⟨y, h1, hq⟩ := ofO_all hq
    obtain ⟨f1, f2⟩ := loadA_sound (P := P) h h1
    exact pureV (Instr.loadAt t (a.eval x)) y (by simp [execOp, ho]) (by rw [e0, f1]) f2 hq
  · rename_i t x y ho
    obtain ⟨v, h0, hq⟩ := ofO_all hx
    obtain ⟨u, h1, hq⟩ := ofO_all hq
    obtain ⟨H', h2, hq⟩ := ofO_all hq
    obtain ⟨e0, e00⟩ := hev h0
    obtain ⟨e1, e11⟩ := hev h1
    exact memU (Instr.storeAt t (a.eval x) (a.eval y)) H' (by simp [execOp, ho]) (by rw [e0, e1]; exact storeA_sound (P := P) h e11 h2) hq
  · rename_i x ho
    obtain ⟨v, h0, hq⟩ := ofO_all hx
    obtain ⟨u, h1, hq⟩ := ofO_all hq
    obtain ⟨e0, e00⟩ := hev h0
    unfold nilCheckA at h1
    split at h1
    · rename_i id off
      split at h1
      · rename_i hl
        injection h1 with h1
        subst h1
        obtain ⟨ad, ha⟩ := live_some h hl
        exact pureV (pure (a.eval x)) _ (by simp [execOp, ho, e0, ren, ha]) (by simp [e0]) e00 hq
      · cases h1
    · rename_i g off
      injection h1 with h1
      subst h1
      exact pureV (pure (a.eval x)) _ (by simp [execOp, ho, e0, ren]) (by simp [e0]) e00 hq
    · rename_i f b c
      injection h1 with h1
      subst h1
      exact pureV (pure (a.eval x)) _ (by simp [execOp, ho, e0, ren]) (by simp [e0]) e00 hq
    · cases h1
  · rename_i op t x y u ho
    obtain ⟨v, h0, hq⟩ := ofO_all hx
    obtain ⟨v', h1, hq⟩ := ofO_all hq
    obtain ⟨e0, e00⟩ := hev h0
    obtain ⟨e1, e11⟩ := hev h1
    split at hq
    · rename_i r h2
      obtain ⟨f1, f2⟩ := vsNilA_sound (P := P) (xo := x) (yo := y) h h2
      rw [← e0, ← e1] at f1
      exact pureV _ r (by simp [execOp, ho]; cases (eqGuard op t x y (a.eval x) (a.eval y)).run P w <;> rfl) f1 (f2 _) hq
    · obtain ⟨r, h2, hq⟩ := ofO_all hq
      obtain ⟨f1, f2⟩ := binA_sound (P := P) (ρ := ρ) (w := w) h2
      rw [← e0, ← e1] at f1
      exact pureV _ r (by simp [execOp, ho]; cases (eqGuard op t x y (a.eval x) (a.eval y)).run P w <;> rfl) f1 (f2 _) hq
  · rename_i op t x ho
    obtain ⟨v, h0, hq⟩ := ofO_all hx
    obtain ⟨r, h2, hq⟩ := ofO_all hq
    obtain ⟨e0, e00⟩ := hev h0
    obtain ⟨f1, f2⟩ := unA_sound (P := P) (ρ := ρ) (w := w) h2
    exact pureV (Op.unary op (a.eval x)) r (by simp [execOp, ho]) (by rw [e0, f1]) (f2 _) hq
  · rename_i s d x ho
    obtain ⟨v, h0, hq⟩ := ofO_all hx
    obtain ⟨p, h2, hq⟩ := ofO_all hq
    obtain ⟨r, H'⟩ := p
    obtain ⟨e0, e00⟩ := hev h0
    exact memV (convert s d (a.eval x)) r H' (by simp [execOp, ho]) (by rw [e0]; exact convertA_sound (P := P) h e00 h2) hq
  · rename_i t x ho
    obtain ⟨v, h0, hq⟩ := ofO_all hx
    obtain ⟨e0, e00⟩ := hev h0
    split at hq
    · exact hq.elim
    · rename_i d hni hu
      refine pureV (Instr.makeInterface t (a.eval x)) (.iface t v) (by simp [execOp, ho]) ?_ (by simpa [AV.bd] using e00) hq
      simp only [Instr.makeInterface, Sem.run_bind, run_und hu, Result.andThen_ok, e0, ren, Sem.run_pure]
    · exact hq.elim
  · rename_i f b c ho
    obtain ⟨vs, h0, hq⟩ := ofO_all hx
    obtain ⟨us, h1, hq⟩ := ofO_all hq
    obtain ⟨e1, e2⟩ := evL_ren hr h0
    obtain ⟨e3, e4⟩ := evL_ren hr h1
    have hm : b.map a.eval = (vs.map (ren ρ)).toArray := by rw [← e1]; apply Array.ext'; simp
    have hm' : c.map a.eval = (us.map (ren ρ)).toArray := by rw [← e3]; apply Array.ext'; simp
    exact pureV (Instr.makeFunc (.func f) (b.map a.eval) (c.map a.eval)) (.fn f vs us) (by simp [execOp, ho]) (by simp [Instr.makeFunc, hm, hm', ren]) (by simp only [AV.bd]; exact ⟨e2, e4⟩) hq
  · rename_i t ho
    refine memV (Instr.makeMap t none) _ _ (by simp [execOp, ho]) ⟨_, _, ?_, Sim.newObj (o := .map []) (ob := .map #[] 0) h rfl (by simp [AObj.bd]) (fun ρ' w' hw _ => ⟨#[], hw, by simp, by simp⟩), by simp [AV.bd]⟩ hx
    simp [Instr.makeMap, ren]
  · rename_i t l c ho
    obtain ⟨v, h0, hq⟩ := ofO_all hx
    obtain ⟨u, h1, hq⟩ := ofO_all hq
    obtain ⟨p, h2, hq⟩ := ofO_all hq
    obtain ⟨r, H'⟩ := p
    obtain ⟨e0, e00⟩ := hev h0
    obtain ⟨e1, e11⟩ := hev h1
    exact memV (Instr.makeSlice t (a.eval l) (a.eval c)) r H' (by simp [execOp, ho]) (by rw [e0, e1]; exact makeSliceA_sound (P := P) h h2) hq
  · rename_i t x lo hi mx ho
    obtain ⟨v, h0, hq⟩ := ofO_all hx
    obtain ⟨e0, e00⟩ := hev h0
    split at hq
    · exact hq.elim
    · exact hq.elim
    · exact hq.elim
    · rename_i h1 h2 h3
      obtain ⟨p, h4, hq⟩ := ofO_all hq
      obtain ⟨r, H'⟩ := p
      have side : ∀ (y : Option Operand), ¬ (y.map (evA regs) = some none) → y.map a.eval = (y.map (evA regs)).join.map (ren ρ) := by
        intro y hy
        cases y with
        | none => rfl
        | some o =>
          cases hv : evA regs o with
          | none => simp [hv] at hy
          | some v => obtain ⟨e1, _⟩ := hev hv; simp [hv, e1]
      exact memV (Instr.sliceAt t (a.eval x) (lo.map a.eval) (hi.map a.eval) (mx.map a.eval)) r H' (by simp [execOp, ho]) (by
        rw [e0, side lo (fun e => h1 e), side hi (fun e => h2 e), side mx (fun e => h3 e)]
        obtain ⟨ρ', f1, f2, f3⟩ := sliceA_sound (P := P) h e00 h4
        exact ⟨ρ', w, f1, f2, f3⟩) hq
  · rename_i t x i ho
    obtain ⟨v, h0, hq⟩ := ofO_all hx
    obtain ⟨r, h2, hq⟩ := ofO_all hq
    obtain ⟨e0, e00⟩ := hev h0
    obtain ⟨f1, f2⟩ := fieldAddrA_sound (P := P) h e00 h2
    exact pureV (Instr.fieldAt t (a.eval x) i) r (by simp [execOp, ho]) (by rw [e0, f1]) f2 hq
  · rename_i t x i ho
    obtain ⟨v, h0, hq⟩ := ofO_all hx
    obtain ⟨r, h2, hq⟩ := ofO_all hq
    obtain ⟨e0, e00⟩ := hev h0
    obtain ⟨f1, f2⟩ := fieldValA_sound (P := P) (ρ := ρ) (w := w) e00 h2
    exact pureV (Instr.field t (a.eval x) i) r (by simp [execOp, ho]) (by rw [e0, f1]) f2 hq
  · rename_i t x i ho
    obtain ⟨v, h0, hq⟩ := ofO_all hx
    obtain ⟨u, h1, hq⟩ := ofO_all hq
    obtain ⟨r, h2, hq⟩ := ofO_all hq
    obtain ⟨e0, e00⟩ := hev h0
    obtain ⟨e1, e11⟩ := hev h1
    obtain ⟨f1, f2⟩ := indexAddrA_sound (P := P) h e00 h2
    exact pureV (Instr.indexAt t (a.eval x) (a.eval i)) r (by simp [execOp, ho]) (by rw [e0, e1, f1]) f2 hq
  · rename_i t x i ho
    obtain ⟨v, h0, hq⟩ := ofO_all hx
    obtain ⟨u, h1, hq⟩ := ofO_all hq
    obtain ⟨r, h2, hq⟩ := ofO_all hq
    obtain ⟨e0, e00⟩ := hev h0
    obtain ⟨e1, e11⟩ := hev h1
    obtain ⟨f1, f2⟩ := indexA_sound (P := P) (ρ := ρ) (w := w) e00 h2
    exact pureV (Instr.index t (a.eval x) (a.eval i)) r (by simp [execOp, ho]) (by rw [e0, e1, f1]) f2 hq
  · rename_i t x k ok ho
    obtain ⟨v, h0, hq⟩ := ofO_all hx
    obtain ⟨u, h1, hq⟩ := ofO_all hq
    obtain ⟨r, h2, hq⟩ := ofO_all hq
    obtain ⟨e0, e00⟩ := hev h0
    obtain ⟨e1, e11⟩ := hev h1
    obtain ⟨f1, f2⟩ := lookupA_sound (P := P) h h2
    exact pureV (Instr.lookup t (a.eval x) (a.eval k) ok) r (by simp [execOp, ho]) (by rw [e0, e1, f1]) f2 hq
  · rename_i t x k y ho
    obtain ⟨v, h0, hq⟩ := ofO_all hx
    obtain ⟨u, h1, hq⟩ := ofO_all hq
    obtain ⟨z, h2, hq⟩ := ofO_all hq
    obtain ⟨H', h3, hq⟩ := ofO_all hq
    obtain ⟨e0, e00⟩ := hev h0
    obtain ⟨e1, e11⟩ := hev h1
    obtain ⟨e2, e22⟩ := hev h2
    exact memU (Instr.mapUpdate t (a.eval x) (a.eval k) (a.eval y)) H' (by simp [execOp, ho]) (by rw [e0, e1, e2]; exact mapUpdateA_sound (P := P) h e11 e22 h3) hq
  · rename_i t x ho
    obtain ⟨v, h0, hq⟩ := ofO_all hx
    obtain ⟨p, h2, hq⟩ := ofO_all hq
    obtain ⟨r, H'⟩ := p
    obtain ⟨e0, e00⟩ := hev h0
    exact memV (Instr.range t (a.eval x)) r H' (by simp [execOp, ho]) (by rw [e0]; exact rangeA_sound (P := P) h h2) hq
  · rename_i it s ho
    obtain ⟨v, h0, hq⟩ := ofO_all hx
    obtain ⟨e0, e00⟩ := hev h0
    obtain ⟨r, H', ρ', w', f1, f2, f3, f4⟩ := nextA_sound (P := P) (ty := o.type) h hq
    exact memV (Instr.next (a.eval it) s o.type) r H' (by simp [execOp, ho]) ⟨ρ', w', by rw [e0]; exact f1, f2, f3⟩ f4
  · rename_i it ho
    obtain ⟨v, h0, hq⟩ := ofO_all hx
    obtain ⟨r, h2, hq⟩ := ofO_all hq
    obtain ⟨e0, e00⟩ := hev h0
    obtain ⟨f1, f2⟩ := entryA_sound (P := P) h h2
    exact pureV (Instr.entry (a.eval it)) r (by simp [execOp, ho]) (by rw [e0, f1]) f2 hq
  · rename_i t i ho
    obtain ⟨v, h0, hq⟩ := ofO_all hx
    obtain ⟨r, h2, hq2⟩ := ofO_all hq
    obtain ⟨e0, e00⟩ := hev h0
    cases v with
    | tup l =>
      simp only [AV.bd] at e00
      simp only [extractA] at h2
      refine pureV (Instr.extract (a.eval t) i) r (by simp [execOp, ho]) ?_ (e00 r (List.mem_of_getElem? h2)) hq2
      simp [e0, ren, Instr.extract, h2]
    | _ => simp [extractA] at h2
  · rename_i args ts ho
    obtain ⟨vs, h0, hq⟩ := ofO_all hx
    split at hq
    · rename_i t x hts
      obtain ⟨e1, e2⟩ := evL_ren hr h0
      have hm : args.map a.eval = #[ren ρ x] := by
        have : (args.map a.eval).toList = [ren ρ x] := by simpa using e1
        exact Array.toList_inj.1 (by simpa using this)
      obtain ⟨r, H', ρ', w', f1, f2, f3, f4⟩ := capA_sound (P := P) (ts := ts) (ty := o.type) (consts := args.map fun | .const _ => true | _ => false) h (by rw [← Array.getElem?_toList, hts]; rfl) hq
      exact ⟨r, H', ρ', w', .inl (by simp only [execOp, ho, Sem.run_bind, resolve, Sem.run_pure, Result.andThen_ok, invoke, hm]; exact f1), f2, f3, f4⟩
    · exact hq.elim
  · rename_i b args ts _ ho
    obtain ⟨vs, h0, hq⟩ := ofO_all hx
    obtain ⟨p, h1, hq⟩ := ofO_all hq
    obtain ⟨r, H'⟩ := p
    obtain ⟨e1, e2⟩ := evL_ren hr h0
    obtain ⟨ρ', w', f1, f2, f3⟩ := builtinA_sound (P := P) (ty := o.type) (consts := args.map fun | .const _ => true | _ => false) h e2 h1
    have hm : args.map a.eval = (vs.map (ren ρ)).toArray := by rw [← e1]; apply Array.ext'; simp
    exact ⟨r, H', ρ', w', .inl (by simp only [execOp, ho, Sem.run_bind, resolve, Sem.run_pure, Result.andThen_ok, invoke, hm]; exact f1), f2, f3, hq⟩
  · exact hx.elim

end Go.Proofs.YtlcfkeigipkhlaaGreatDoorAbs
