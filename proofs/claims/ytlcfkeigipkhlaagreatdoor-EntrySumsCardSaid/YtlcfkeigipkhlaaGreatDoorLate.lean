/- What is done ahead of its turn, and what is told later than done: operations that yield in every world (or in every world where what they read stands), and makers of objects. -/
import Derived.Test.YtlcfkeigipkhlaaGreatDoorOrders
set_option linter.unusedVariables false
set_option linter.unusedSimpArgs false
namespace Go.Proofs.YtlcfkeigipkhlaaGreatDoorAbs
open Go.RowKit
variable {P : Program}

/-! ### Ahead of its turn -/
def Hold.bd (n : Nat) : Hold → Prop
  | .load _ _ a v => a.bd n ∧ v.bd n
  | .look _ _ x k _ v => x.bd n ∧ k.bd n ∧ v.bd n

/-- The condition on the world. -/
def Hold.real (P : Program) (ρ : Env) : Hold → World → Prop
  | .load _ t a v => fun w => (Instr.loadAt t (ren ρ a)).run P w = .ok (ren ρ v) w
  | .look _ t x k ok v => fun w => (Instr.lookup t (ren ρ x) (ren ρ k) ok).run P w = .ok (ren ρ v) w

theorem Hold.real_ext {ρ ρ' : Env} {n : Nat} (he : Ext n ρ ρ') (h : Hold) (hb : h.bd n) : h.real P ρ' = h.real P ρ := by
  cases h with
  | load i t a v => simp only [Hold.bd] at hb; simp only [Hold.real, ren_ext he a hb.1, ren_ext he v hb.2]
  | look i t x k ok v => simp only [Hold.bd] at hb; simp only [Hold.real, ren_ext he x hb.1, ren_ext he k hb.2.1, ren_ext he v hb.2.2]
theorem Hold.bd_mono {n m : Nat} (hn : n ≤ m) (h : Hold) (hb : h.bd n) : h.bd m := by
  cases h with
  | load i t a v => exact ⟨AV.bd_mono hn _ hb.1, AV.bd_mono hn _ hb.2⟩
  | look i t x k ok v => exact ⟨AV.bd_mono hn _ hb.1, AV.bd_mono hn _ hb.2.1, AV.bd_mono hn _ hb.2.2⟩
theorem Hold.real_of {ρ : Env} {H : Heap} {w : World} (hr : HRel ρ H w) (h : Hold) (hh : h.holds P H) : h.real P ρ w := by
  cases h with
  | load i t a v => exact (loadA_sound (P := P) hr hh).1
  | look i t x k ok v => exact (lookupA_sound (P := P) hr hh).1

theorem runU {w : World} {o : Oper} {a : Act} {s : Sem Value} {v : Value} (h1 : execOp a.eval o = (do pure (.value (← s)))) (h2 : s.run P w = .ok v w) : (execOp a.eval o).run P w = .ok (.value v) w := by
  rw [h1]; simp [h2]

/-! ### Blind to the world -/
def Never (P : Program) {α : Type} (s : Sem α) : Prop := ∀ w x w', s.run P w ≠ .ok x w'
def Blind (P : Program) {α : Type} (s : Sem α) : Prop := (∃ x, ∀ w, s.run P w = .ok x w) ∨ Never P s
theorem Blind.any {α : Type} {s : Sem α} {w w' : World} {x : α} (h : Blind P s) (hr : s.run P w = .ok x w') : ∀ w1, s.run P w1 = .ok x w1 := by
  rcases h with ⟨y, h⟩ | h
  · rw [h] at hr
    injection hr with h1 h2
    subst h1
    exact h
  · exact absurd hr (h w x w')
theorem Blind.pure {α : Type} (x : α) : Blind P (Pure.pure x : Sem α) := .inl ⟨x, fun w => by simp⟩
theorem Never.bind {α β : Type} {s : Sem α} {f : α → Sem β} (h : ∀ x, Never P (f x)) : Never P (s >>= f) := by
  intro w x w' e
  rw [Sem.run_bind] at e
  cases hs : s.run P w with
  | ok y w1 => rw [hs] at e; exact h y w1 x w' e
  | halt y w1 => rw [hs] at e; cases e
theorem Blind.bind {α β : Type} {s : Sem α} {f : α → Sem β} (h : Blind P s) (hf : ∀ x, Blind P (f x)) : Blind P (s >>= f) := by
  rcases h with ⟨y, h⟩ | h
  · rcases hf y with ⟨z, hz⟩ | hz
    · exact .inl ⟨z, fun w => by rw [Sem.run_bind, h]; exact hz w⟩
    · exact .inr fun w x w' e => by rw [Sem.run_bind, h] at e; exact hz w x w' e
  · refine .inr fun w x w' e => ?_
    rw [Sem.run_bind] at e
    cases hs : s.run P w with
    | ok y w1 => exact h w y w1 hs
    | halt y w1 => rw [hs] at e; cases e
theorem Blind.stuck {α : Type} (m : String) : Blind P (Go.stuck m : Sem α) := .inr fun w x w' e => by simp [Go.stuck, Sem.run] at e
theorem Blind.unsupported {α : Type} (m : Unsupported) : Blind P (Go.unsupported m : Sem α) := .inr fun w x w' e => by simp [Go.unsupported, Sem.run] at e
theorem Never.runtimePanic {α : Type} (m : RuntimeError) : Never P (Go.runtimePanic m : Sem α) := by
  have hg : ∀ v, Never P (goPanic v : Sem α) := fun v w x w' e => by simp [goPanic, Sem.run] at e
  unfold Go.runtimePanic
  refine Never.bind fun p => ?_
  cases m <;> first | exact hg _ | exact Never.bind fun _ => Never.bind fun _ => hg _
theorem Blind.runtimePanic {α : Type} (m : RuntimeError) : Blind P (Go.runtimePanic m : Sem α) := .inr (Never.runtimePanic m)
theorem Blind.bounds {α : Type} (k : IntKind) (x y : Int) (c : BoundsCode) : Blind P (Go.boundsPanic k x y c : Sem α) := by
  right
  unfold Go.boundsPanic
  first
    | exact Never.bind fun _ => Never.runtimePanic _
    | (split <;> exact Never.bind fun _ => Never.runtimePanic _)
theorem Blind.und (t : TypeId) : Blind P (underlying t) := by
  cases h : P.underlying t with
  | none => exact .inr fun w x w' e => by simp [underlying, h] at e
  | some d => exact .inl ⟨d, fun w => run_und h⟩
theorem Blind.siz (t : TypeId) : Blind P (sizeOf t) := by
  cases h : P.info? t with
  | none => exact .inr fun w x w' e => by simp [sizeOf, typeInfo, h] at e
  | some d => exact .inl ⟨d.size, fun w => by simp [sizeOf, typeInfo, h]⟩
theorem Blind.asIntOf (v : Value) : Blind P (Go.asIntOf v) := by
  unfold Go.asIntOf
  split
  · exact .pure _
  · exact .unsupported _
  · exact .stuck _
theorem Blind.sliceBound (x : Value) (y : Nat) (c : BoundsCode) : Blind P (Instr.sliceBound x y c) := by
  unfold Instr.sliceBound
  refine .bind (.asIntOf x) fun p => ?_
  obtain ⟨k, i⟩ := p
  simp only
  split
  · exact .pure _
  · exact .bounds _ _ _ _
theorem Blind.sliceBounds (b : Bool) (len cap : Nat) (lo hi mx : Option Value) : Blind P (Instr.sliceBounds b len cap lo hi mx) := by
  unfold Instr.sliceBounds
  repeat' (first | exact Blind.pure _ | exact Blind.stuck _ | exact Blind.sliceBound _ _ _ | refine Blind.bind ?_ (fun _ => ?_) | split)
theorem Blind.sureAddr (v : Value) : Blind P (Instr.sureAddr v) := by
  unfold Instr.sureAddr
  split
  · exact .pure _
  · exact .stuck _
theorem Blind.asAddr (v : Value) : Blind P (Go.asAddr v) := by
  unfold Go.asAddr
  split
  · exact .pure _
  · exact .runtimePanic _
  · exact .stuck _
theorem Blind.slice (t : TypeId) (x : Value) (lo hi mx : Option Value) : Blind P (Instr.slice t x lo hi mx) := by
  unfold Instr.slice
  repeat' (first | exact Blind.pure _ | exact Blind.stuck _ | exact Blind.und _ | exact Blind.siz _ | exact Blind.asAddr _ | exact Blind.sliceBounds _ _ _ _ _ _ | refine Blind.bind ?_ (fun _ => ?_) | split)
theorem Blind.sliceAt (t : TypeId) (x : Value) (lo hi mx : Option Value) : Blind P (Instr.sliceAt t x lo hi mx) := by
  unfold Instr.sliceAt
  repeat' (first | exact Blind.pure _ | exact Blind.stuck _ | exact Blind.und _ | exact Blind.siz _ | exact Blind.sureAddr _ | exact Blind.sliceBounds _ _ _ _ _ _ | exact Blind.slice _ _ _ _ _ | refine Blind.bind ?_ (fun _ => ?_) | split)

theorem cutA_bump {e : TypeId} {x v : AV} {lo hi mx : Option AV} {H H' : Heap} (h : cutA P e x lo hi mx H = some (v, H')) : ∃ n, H' = { H with next := n } := by
  unfold cutA at h
  repeat' (split at h)
  all_goals first
    | (cases h; done)
    | (injection h with h; injection h with h1 h2; exact ⟨H.next, h2.symm⟩)
    | (injection h with h; injection h with h1 h2; exact ⟨H.next + 1, h2.symm⟩)
theorem sliceA_bump {t : TypeId} {x v : AV} {lo hi mx : Option AV} {H H' : Heap} (h : sliceA P t x lo hi mx H = some (v, H')) : ∃ n, H' = { H with next := n } := by
  unfold sliceA at h
  split at h
  · repeat' (split at h)
    all_goals first
      | (cases h; done)
      | (injection h with h; injection h with h1 h2; exact ⟨H.next, h2.symm⟩)
  · exact cutA_bump h
  · repeat' (split at h)
    all_goals first
      | (cases h; done)
      | (injection h with h; injection h with h1 h2; exact ⟨H.next, h2.symm⟩)
  · cases h
theorem Hold.holds_bump {k : Hold} {H H' : Heap} (h : k.holds P H) (hb : ∃ n, H' = { H with next := n }) : k.holds P H' := by
  obtain ⟨n, rfl⟩ := hb
  cases k <;> exact h

/-- What an inert operation comes to, in any world of its condition. -/
def InertOK (P : Program) (i : Nat) (o : Oper) (a : Act) (regs : List AV) (ρ : Env) (H : Heap) (w : World) (Q : AV × Heap → Prop) : Prop :=
  ∃ v H' ρ', Sim ρ H w ρ' H' w ∧ v.bd H'.next ∧ (∃ n, H' = { H with next := n }) ∧ Q (v, H') ∧
    ((∀ w1, (execOp a.eval o).run P w1 = .ok (.value (ren ρ' v)) w1) ∧ (holdOf i o regs v = none) ∨
      ∃ h, holdOf i o regs v = some h ∧ h.num = i ∧ h.holds P H' ∧ h.bd H'.next ∧ ∀ w1, h.real P ρ' w1 → (execOp a.eval o).run P w1 = .ok (.value (ren ρ' v)) w1)

theorem inertA_sound {ρ : Env} {H : Heap} {w : World} {i : Nat} {o : Oper} {a : Act} {regs : List AV} {Q : AV × Heap → Prop} (h : HRel ρ H w) (hr : RegRel ρ H.next regs a.tmps) (hk : kindA P o = .inert) (hx : (opA P o regs H).all Q) : InertOK P i o a regs ρ H w Q := by
  have hev : ∀ {x : Operand} {v : AV}, evA regs x = some v → a.eval x = ren ρ v ∧ v.bd H.next := fun hv => let ⟨e1, e2, _⟩ := evA_ren hr hv; ⟨e1, e2⟩
  have same : ∀ (v : AV), (∀ w1, (execOp a.eval o).run P w1 = .ok (.value (ren ρ v)) w1) → v.bd H.next → Q (v, H) → holdOf i o regs v = none → InertOK P i o a regs ρ H w Q :=
    fun v h1 h2 h3 h4 => ⟨v, H, ρ, Sim.refl h, h2, ⟨H.next, rfl⟩, h3, .inl ⟨h1, h4⟩⟩
  unfold opA at hx
  unfold kindA at hk
  cases hop : o.op <;> simp only [hop] at hx hk <;> first | (cases hk; done) | (exfalso; revert hk; cases o.guard <;> (intro hk; cases hk); done) | skip
  case makeMap t r =>
    exfalso
    revert hk
    cases r <;> cases o.guard <;> (intro hk; cases hk)
  case move x =>
    obtain ⟨v, h1, hq⟩ := ofO_all hx
    obtain ⟨e1, e2⟩ := hev h1
    exact same v (fun w1 => by simp [execOp, hop, e1]) e2 hq (by simp [holdOf, hop])
  case assign x =>
    obtain ⟨v, h1, hq⟩ := ofO_all hx
    obtain ⟨e1, e2⟩ := hev h1
    exact same v (fun w1 => by simp [execOp, hop, e1]) e2 hq (by simp [holdOf, hop])
  case pick c x y =>
    obtain ⟨cv, h0, hq⟩ := ofO_all hx
    obtain ⟨e0, _⟩ := hev h0
    split at hq
    · rename_i t
      split at hq
      · rename_i ht
        obtain ⟨v, h1, hq⟩ := ofO_all hq
        obtain ⟨e1, e2⟩ := hev h1
        exact same v (fun w1 => by simp [execOp, hop, e0, e1, ren, asBool, ht]) e2 hq (by simp [holdOf, hop])
      · rename_i ht
        obtain ⟨v, h1, hq⟩ := ofO_all hq
        obtain ⟨e1, e2⟩ := hev h1
        exact same v (fun w1 => by simp [execOp, hop, e0, e1, ren, asBool, ht]) e2 hq (by simp [holdOf, hop])
    · exact hq.elim
  case build t ps =>
    obtain ⟨vs, h0, hq⟩ := ofO_all hx
    obtain ⟨v, h1, hq⟩ := ofO_all hq
    obtain ⟨e1, e2⟩ := evParts_ren hr h0
    have hm : ps.map (fun x => (x.1, a.eval x.2)) = (vs.map fun p => (p.1, ren ρ p.2)).toArray := by
      rw [← e1]; apply Array.ext'; simp
    exact same v (fun w1 => runU (s := Instr.build t (ps.map fun (i, x) => (i, a.eval x))) (by simp [execOp, hop]) (by rw [← (buildA_sound (P := P) (w := w1) (ρ := ρ) e2 h1).1, ← hm])) (buildA_sound (P := P) (w := w) (ρ := ρ) e2 h1).2 hq (by simp [holdOf, hop])
  case load t x =>
    obtain ⟨v, h0, hq⟩ := ofO_all hx
    obtain ⟨e0, e00⟩ := hev h0
    obtain ⟨y, h1, hq⟩ := ofO_all hq
    obtain ⟨f1, f2⟩ := loadA_sound (P := P) h h1
    refine ⟨y, H, ρ, Sim.refl h, f2, ⟨H.next, rfl⟩, hq, .inr ⟨.load i t v y, by simp [holdOf, hop, h0], rfl, h1, ⟨e00, f2⟩, fun w1 hw => ?_⟩⟩
    exact runU (s := Instr.loadAt t (a.eval x)) (by simp [execOp, hop]) (by rw [e0]; exact hw)
  case nilCheck x =>
    obtain ⟨v, h0, hq⟩ := ofO_all hx
    obtain ⟨u, h1, hq⟩ := ofO_all hq
    obtain ⟨e0, e00⟩ := hev h0
    unfold nilCheckA at h1
    split at h1
    · rename_i id off
      split at h1
      · rename_i hl
        injection h1 with h1
        subst h1
        obtain ⟨ad, ha⟩ := live_some h hl
        exact same _ (fun w1 => by simp [execOp, hop, e0, ren, ha]) e00 hq (by simp [holdOf, hop])
      · cases h1
    · rename_i g off
      injection h1 with h1
      subst h1
      exact same _ (fun w1 => by simp [execOp, hop, e0, ren]) e00 hq (by simp [holdOf, hop])
    · rename_i f b c
      injection h1 with h1
      subst h1
      exact same _ (fun w1 => by simp [execOp, hop, e0, ren]) e00 hq (by simp [holdOf, hop])
    · cases h1
  case binOp op t x y u =>
    obtain ⟨v, h0, hq⟩ := ofO_all hx
    obtain ⟨v', h1, hq⟩ := ofO_all hq
    obtain ⟨e0, e00⟩ := hev h0
    obtain ⟨e1, e11⟩ := hev h1
    have key : ∀ r, (∀ w1, (do eqGuard op t x y (ren ρ v) (ren ρ v'); binOp op t (ren ρ v) (ren ρ v') : Sem Value).run P w1 = .ok (ren ρ r) w1) → ∀ w1, (execOp a.eval o).run P w1 = .ok (.value (ren ρ r)) w1 := by
      intro r hh w1
      have := hh w1
      rw [← e0, ← e1] at this
      refine runU (s := do eqGuard op t x y (a.eval x) (a.eval y); binOp op t (a.eval x) (a.eval y)) (by simp [execOp, hop]) this
    split at hq
    · rename_i r h2
      exact same r (key r fun w1 => (vsNilA_sound (P := P) (w1 := w1) h h2).1) ((vsNilA_sound (P := P) (w1 := w) (xo := x) (yo := y) h h2).2 _) hq (by simp [holdOf, hop])
    · obtain ⟨r, h2, hq⟩ := ofO_all hq
      exact same r (key r fun w1 => (binA_sound (P := P) (ρ := ρ) (w := w1) h2).1) ((binA_sound (P := P) (ρ := ρ) (w := w) h2).2 _) hq (by simp [holdOf, hop])
  case unOp op t x =>
    obtain ⟨v, h0, hq⟩ := ofO_all hx
    obtain ⟨r, h2, hq⟩ := ofO_all hq
    obtain ⟨e0, e00⟩ := hev h0
    exact same r (fun w1 => runU (s := Op.unary op (a.eval x)) (by simp [execOp, hop]) (by rw [e0]; exact (unA_sound (P := P) (ρ := ρ) (w := w1) h2).1)) ((unA_sound (P := P) (ρ := ρ) (w := w) h2).2 _) hq (by simp [holdOf, hop])
  case convert s d x =>
    obtain ⟨v, h0, hq⟩ := ofO_all hx
    obtain ⟨p, h2, hq⟩ := ofO_all hq
    obtain ⟨r, H'⟩ := p
    obtain ⟨e0, e00⟩ := hev h0
    split at hk
    · rename_i hp
      unfold isPtrFree at hp
      split at hp
      · rename_i kd ks hd hs
        unfold convertA at h2
        rw [hs, hd] at h2
        cases v <;> simp only at h2 <;> first | (cases h2; done) | skip
        injection h2 with h2
        injection h2 with h3 h4
        subst h3 h4
        exact same _ (fun w1 => runU (s := convert s d (a.eval x)) (by simp [execOp, hop]) (by rw [e0]; simp [convert, run_und hs, run_und hd, ren, Conv.intToInt])) (by simp [AV.bd]) hq (by simp [holdOf, hop])
      · cases hp
    · cases hk
  case makeInterface t x =>
    obtain ⟨v, h0, hq⟩ := ofO_all hx
    obtain ⟨e0, e00⟩ := hev h0
    split at hq
    · exact hq.elim
    · rename_i d hni hu
      refine same (.iface t v) (fun w1 => runU (s := Instr.makeInterface t (a.eval x)) (by simp [execOp, hop]) ?_) (by simpa [AV.bd] using e00) hq (by simp [holdOf, hop])
      simp only [Instr.makeInterface, Sem.run_bind, run_und hu, Result.andThen_ok, e0, ren, Sem.run_pure]
    · exact hq.elim
  case makeFunc fn b c =>
    cases fn with
    | func f =>
      obtain ⟨vs, h0, hq⟩ := ofO_all hx
      obtain ⟨us, h1, hq⟩ := ofO_all hq
      obtain ⟨e1, e2⟩ := evL_ren hr h0
      obtain ⟨e3, e4⟩ := evL_ren hr h1
      have hm : b.map a.eval = (vs.map (ren ρ)).toArray := by rw [← e1]; apply Array.ext'; simp
      have hm' : c.map a.eval = (us.map (ren ρ)).toArray := by rw [← e3]; apply Array.ext'; simp
      exact same (.fn f vs us) (fun w1 => runU (s := Instr.makeFunc (.func f) (b.map a.eval) (c.map a.eval)) (by simp [execOp, hop]) (by simp [Instr.makeFunc, hm, hm', ren])) (by simp only [AV.bd]; exact ⟨e2, e4⟩) hq (by simp [holdOf, hop])
    | _ => cases hk
  case slice t x lo hi mx =>
    obtain ⟨v, h0, hq⟩ := ofO_all hx
    obtain ⟨e0, e00⟩ := hev h0
    split at hq
    · exact hq.elim
    · exact hq.elim
    · exact hq.elim
    · rename_i h1 h2 h3
      obtain ⟨p, h4, hq⟩ := ofO_all hq
      obtain ⟨r, H'⟩ := p
      have side : ∀ (y : Option Operand), ¬ (y.map (evA regs) = some none) → y.map a.eval = (y.map (evA regs)).join.map (ren ρ) := by
        intro y hy
        cases y with
        | none => rfl
        | some o =>
          cases hv : evA regs o with
          | none => simp [hv] at hy
          | some v => obtain ⟨e1, _⟩ := hev hv; simp [hv, e1]
      obtain ⟨ρ', f1, f2, f3⟩ := sliceA_sound (P := P) (w1 := w) h e00 h4
      have f4 := Blind.any (Blind.sliceAt (P := P) _ _ _ _ _) f1
      refine ⟨r, H', ρ', f2, f3, sliceA_bump h4, hq, .inl ⟨fun w1 => runU (s := Instr.sliceAt t (a.eval x) (lo.map a.eval) (hi.map a.eval) (mx.map a.eval)) (by simp [execOp, hop]) ?_, by simp [holdOf, hop]⟩⟩
      rw [e0, side lo (fun e => h1 e), side hi (fun e => h2 e), side mx (fun e => h3 e)]
      exact f4 w1
  case fieldAddr t x f =>
    obtain ⟨v, h0, hq⟩ := ofO_all hx
    obtain ⟨r, h2, hq⟩ := ofO_all hq
    obtain ⟨e0, e00⟩ := hev h0
    exact same r (fun w1 => runU (s := Instr.fieldAt t (a.eval x) f) (by simp [execOp, hop]) (by rw [e0]; exact (fieldAddrA_sound (P := P) (w1 := w1) h e00 h2).1)) (fieldAddrA_sound (P := P) (w1 := w) h e00 h2).2 hq (by simp [holdOf, hop])
  case field t x f =>
    obtain ⟨v, h0, hq⟩ := ofO_all hx
    obtain ⟨r, h2, hq⟩ := ofO_all hq
    obtain ⟨e0, e00⟩ := hev h0
    exact same r (fun w1 => runU (s := Instr.field t (a.eval x) f) (by simp [execOp, hop]) (by rw [e0]; exact (fieldValA_sound (P := P) (ρ := ρ) (w := w1) e00 h2).1)) (fieldValA_sound (P := P) (ρ := ρ) (w := w) e00 h2).2 hq (by simp [holdOf, hop])
  case indexAddr t x j =>
    obtain ⟨v, h0, hq⟩ := ofO_all hx
    obtain ⟨u, h1, hq⟩ := ofO_all hq
    obtain ⟨r, h2, hq⟩ := ofO_all hq
    obtain ⟨e0, e00⟩ := hev h0
    obtain ⟨e1, e11⟩ := hev h1
    exact same r (fun w1 => runU (s := Instr.indexAt t (a.eval x) (a.eval j)) (by simp [execOp, hop]) (by rw [e0, e1]; exact (indexAddrA_sound (P := P) (w1 := w1) h e00 h2).1)) (indexAddrA_sound (P := P) (w1 := w) h e00 h2).2 hq (by simp [holdOf, hop])
  case index t x j =>
    obtain ⟨v, h0, hq⟩ := ofO_all hx
    obtain ⟨u, h1, hq⟩ := ofO_all hq
    obtain ⟨r, h2, hq⟩ := ofO_all hq
    obtain ⟨e0, e00⟩ := hev h0
    obtain ⟨e1, e11⟩ := hev h1
    exact same r (fun w1 => runU (s := Instr.index t (a.eval x) (a.eval j)) (by simp [execOp, hop]) (by rw [e0, e1]; exact (indexA_sound (P := P) (ρ := ρ) (w := w1) e00 h2).1)) (indexA_sound (P := P) (ρ := ρ) (w := w) e00 h2).2 hq (by simp [holdOf, hop])
  case lookup t x k ok =>
    obtain ⟨v, h0, hq⟩ := ofO_all hx
    obtain ⟨u, h1, hq⟩ := ofO_all hq
    obtain ⟨r, h2, hq⟩ := ofO_all hq
    obtain ⟨e0, e00⟩ := hev h0
    obtain ⟨e1, e11⟩ := hev h1
    obtain ⟨f1, f2⟩ := lookupA_sound (P := P) h h2
    refine ⟨r, H, ρ, Sim.refl h, f2, ⟨H.next, rfl⟩, hq, .inr ⟨.look i t v u ok r, by simp [holdOf, hop, h0, h1], rfl, h2, ⟨e00, e11, f2⟩, fun w1 hw => ?_⟩⟩
    exact runU (s := Instr.lookup t (a.eval x) (a.eval k) ok) (by simp [execOp, hop]) (by rw [e0, e1]; exact hw)
  case extract t j =>
    obtain ⟨v, h0, hq⟩ := ofO_all hx
    obtain ⟨r, h2, hq2⟩ := ofO_all hq
    obtain ⟨e0, e00⟩ := hev h0
    cases v with
    | tup l =>
      simp only [AV.bd] at e00
      simp only [extractA] at h2
      refine same r (fun w1 => runU (s := Instr.extract (a.eval t) j) (by simp [execOp, hop]) ?_) (e00 r (List.mem_of_getElem? h2)) hq2 (by simp [holdOf, hop])
      simp [e0, ren, Instr.extract, h2]
    | _ => simp [extractA] at h2
  case call c =>
    obtain ⟨callee, args, ts⟩ := c
    cases callee with
    | builtin b =>
      cases b <;> simp only at hk hx <;> first | (cases hk; done) | skip
      obtain ⟨vs, h0, hq0⟩ := ofO_all hx
      obtain ⟨p, h1, hqq⟩ := ofO_all hq0
      obtain ⟨r, H'⟩ := p
      have hqq : Q (r, H') := hqq
      obtain ⟨e1, e2⟩ := evL_ren hr h0
      have hm : args.map a.eval = (vs.map (ren ρ)).toArray := by rw [← e1]; apply Array.ext'; simp
      clear hx hq0
      have fin : ∀ (v : AV), (r, H') = (v, H) → v.bd H.next → (∀ w1, (Builtin.len_ ts o.type (vs.map (ren ρ)).toArray).run P w1 = .ok (ren ρ v) w1) → InertOK P i o a regs ρ H w Q := by
        intro v hv hb hh
        injection hv with hv1 hv2
        subst hv1 hv2
        refine same r (fun w1 => ?_) hb hqq (by simp [holdOf, hop])
        simp only [execOp, hop, resolve, Sem.run_bind, Sem.run_pure, Result.andThen_ok, invoke, builtin, hm, hh w1]
      split at hk
      · rename_i t hts
        have hd0 : ts[0]? = some t := by rw [← Array.getElem?_toList, hts]; rfl
        unfold builtinA at h1
        rw [hts] at h1
        cases vs with
        | nil => cases h1
        | cons x vs =>
          cases vs with
          | cons y vs => cases h1
          | nil =>
            simp only at h1
            split at hk
            · rename_i e hu
              rw [hu] at h1
              simp only at h1
              cases x <;> simp only at h1 <;> first | (cases h1; done) | skip
              · injection h1 with h1; exact fin _ h1.symm (by simp [AV.bd]) fun w1 => by simp [Builtin.len_, hd0, run_und hu, ren, goInt]
              · rename_i id off n c
                injection h1 with h1; exact fin _ h1.symm (by simp [AV.bd]) fun w1 => by cases c <;> simp [Builtin.len_, hd0, run_und hu, ren, goInt]
              · injection h1 with h1; exact fin _ h1.symm (by simp [AV.bd]) fun w1 => by simp [Builtin.len_, hd0, run_und hu, ren, goInt]
            · rename_i hu
              rw [hu] at h1
              cases x <;> simp only at h1 <;> first | (cases h1; done) | skip
              injection h1 with h1; exact fin _ h1.symm (by simp [AV.bd]) fun w1 => by simp [Builtin.len_, hd0, run_und hu, ren, goInt]
            · rename_i n e hu
              rw [hu] at h1
              simp only at h1
              injection h1 with h1; exact fin _ h1.symm (by simp [AV.bd]) fun w1 => by simp [Builtin.len_, hd0, run_und hu, ren, goInt]
            · cases hk
      · cases hk
    | _ => cases hk

end Go.Proofs.YtlcfkeigipkhlaaGreatDoorAbs
