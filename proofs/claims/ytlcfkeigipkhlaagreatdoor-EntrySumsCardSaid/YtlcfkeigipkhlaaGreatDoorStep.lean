/- One operation of a region, and the operations of a region that asks no order. -/
import Derived.Test.YtlcfkeigipkhlaaGreatDoorSound
import Derived.Test.YtlcfkeigipkhlaaGreatDoorRunDefs
set_option linter.unusedVariables false
set_option linter.unusedSimpArgs false
namespace Go.Proofs.YtlcfkeigipkhlaaGreatDoorAbs
open Go.RowKit
variable {P : Program}

/-- What a call comes to. -/
def Came (P : Program) (ρ : Env) (H : Heap) (w : World) (g : FuncId) (args : List AV) (Q : AV × Heap → Prop) : Prop :=
  ((callFunc g (args.map (ren ρ)).toArray).run P w = .ok (.enter g (args.map (ren ρ)).toArray) w ∧
    Calls P g (args.map (ren ρ)).toArray w fun e w' => ∃ v H' ρ', e = .returned (ren ρ' v) ∧ Sim ρ H w ρ' H' w' ∧ v.bd H'.next ∧ Q (v, H')) ∨
  ∃ v H' ρ' w', (callFunc g (args.map (ren ρ)).toArray).run P w = .ok (.value (ren ρ' v)) w' ∧ Sim ρ H w ρ' H' w' ∧ v.bd H'.next ∧ Q (v, H')

/-- All calls that are told come to what is told. -/
def CallOK (P : Program) (call : FuncId → List AV → M) : Prop :=
  ∀ (g : FuncId) (args : List AV) (ρ : Env) (H : Heap) (w : World) (Q : AV × Heap → Prop), HRel ρ H w → (∀ v ∈ args, v.bd H.next) → (call g args H).all Q → Came P ρ H w g args Q

theorem wantedA_sound {ρ : Env} {n : Nat} {regs : List AV} {a : Act} {ops : Array Oper} {o : Oper} {b : Bool} (hr : RegRel ρ n regs a.tmps) (h : wantedA ops o regs = some b) : Region.wanted o (yielded ops a.tmps) = b := by
  unfold wantedA at h
  unfold Region.wanted
  cases hg : o.guard with
  | none => simp [hg] at h; simp [h]
  | some jw =>
    obtain ⟨j, want⟩ := jw
    simp only [hg] at h ⊢
    cases hd : (ops[j]?).bind (·.dst) with
    | none => simp [hd] at h
    | some d =>
      simp only [hd] at h
      unfold yielded
      rw [hd]
      simp only [Option.bind_some]
      split at h
      · rename_i t ht
        injection h with h
        rcases hr.at_ d _ ht with e | ⟨e, _⟩
        · cases e
        · rw [e]; simp only [ren]; rw [← h]; cases t <;> cases want <;> rfl
      · rename_i ht
        injection h with h
        rcases hr.at_ d _ ht with e | ⟨e, _⟩
        · cases e
        · rw [e]; simp only [ren]; rw [← h]; rfl
      · cases h

theorem ren_undef (ρ : Env) : ren ρ undefA = undef := by simp [undefA, ren, undef]

/-- An operation, and on: what must be shown of what comes behind it. -/
theorem stepA_sound {call : FuncId → List AV → M} (hcall : CallOK P call) {ops : Array Oper} {i : Nat} {o : Oper} (hi : ops[i]? = some o) {Q : Exit → Act → World → Prop} {Kr : Act → World → Prop} {K : AV → M} {Q' : AV × Heap → Prop}
    {ρ : Env} {H : Heap} {w : World} {a : Act} {regs : List AV} (h : HRel ρ H w) (hr : RegRel ρ H.next regs a.tmps) (hx : (stepA P call ops o regs K H).all Q')
    (hk : ∀ v H' ρ' w', Sim ρ H w ρ' H' w' → v.bd H'.next → (K v H').all Q' → Kr (a.put o.dst (ren ρ' v)) w') : wpOp P ops Q i Kr a w := by
  unfold stepA at hx
  unfold wpOp
  rw [hi]
  simp only
  split at hx
  · rename_i hw
    rw [wantedA_sound hr hw]
    simp only [if_true]
    refine .inl ?_
    unfold Oper.wp
    split at hx
    · rename_i f args _ ho
      obtain ⟨fv, h1, hx⟩ := ofO_all hx
      split at hx
      · rename_i g first caps
        obtain ⟨as, h2, hx⟩ := ofO_all hx
        obtain ⟨e1, e2, _⟩ := evA_ren hr h1
        obtain ⟨e3, e4⟩ := evL_ren hr h2
        simp only [AV.bd] at e2
        have hbd : ∀ v ∈ first ++ as ++ caps, v.bd H.next := by
          intro v hv
          rcases List.mem_append.1 hv with hv | hv
          · rcases List.mem_append.1 hv with hv | hv
            · exact e2.1 v hv
            · exact e4 v hv
          · exact e2.2 v hv
        have hm : args.map a.eval = (as.map (ren ρ)).toArray := by rw [← e3]; apply Array.ext'; simp
        have hrun : (execOp a.eval o).run P w = (callFunc g ((first ++ as ++ caps).map (ren ρ)).toArray).run P w := by
          simp [execOp, ho, resolve, e1, ren, Deferred.ofValue, invoke, hm]
        have hc := hcall g (first ++ as ++ caps) ρ H w _ h hbd (Res.all_bind.1 hx)
        rw [hrun]
        rcases hc with ⟨c1, c2⟩ | ⟨v, H', ρ', w', c1, c2, c3, c4⟩
        · rw [c1]
          simp only [Oper.upon]
          refine c2.mono fun e w' he => ?_
          obtain ⟨v, H', ρ', rfl, s1, s2, s3⟩ := he
          exact hk v H' ρ' w' s1 s2 s3
        · rw [c1]
          exact hk v H' ρ' w' c2 c3 c4
      · exact hx.elim
    · obtain ⟨v, H', ρ', w', e1, e2, e3, e4⟩ := opA_sound h hr (Res.all_bind.1 hx)
      have := hk v H' ρ' w' e2 e3 e4
      rcases e1 with e1 | ⟨e1, rfl⟩
      · rw [e1]; exact this
      · rw [e1]; rw [ren_undef] at this; exact this
  · rename_i hw
    rw [wantedA_sound hr hw]
    simp only [Bool.false_eq_true, if_false]
    have := hk undefA H ρ w (Sim.refl h) (by simp [undefA, AV.bd]) hx
    rw [ren_undef] at this
    exact this
  · exact hx.elim

theorem opsA_sound {call : FuncId → List AV → M} (hcall : CallOK P call) {ops : Array Oper} {Q : Exit → Act → World → Prop} {K : List AV → M} {Q' : AV × Heap → Prop} {ds : List Deferred} {ρ0 : Env} {H0 : Heap} {w0 : World}
    (hq : ∀ ρ H w a regs, Sim ρ0 H0 w0 ρ H w → RegRel ρ H.next regs a.tmps → a.defers = ds → (K regs H).all Q' → Q .normal a w) :
    ∀ (l : List Oper) (k : Nat) (ρ : Env) (H : Heap) (w : World) (a : Act) (regs : List AV), (∀ j, l[j]? = ops[k + j]?) → Sim ρ0 H0 w0 ρ H w → RegRel ρ H.next regs a.tmps → a.defers = ds → (opsA P call ops l regs K H).all Q' →
      wpOps P ops Q ((List.range l.length).map (k + ·)) a w
  | [], k, ρ, H, w, a, regs, hl, hs, hr, hd, hx => hq ρ H w a regs hs hr hd hx
  | o :: rest, k, ρ, H, w, a, regs, hl, hs, hr, hd, hx => by
    have hi : ops[k]? = some o := by have := hl 0; simpa using this.symm
    have hlist : (List.range (o :: rest).length).map (k + ·) = k :: (List.range rest.length).map (k + 1 + ·) := by
      rw [List.length_cons, List.range_succ_eq_map]
      simp [List.map_map, Function.comp_def, Nat.add_assoc, Nat.add_comm 1]
    rw [hlist, wpOps_cons]
    refine stepA_sound hcall hi hs.rel hr hx fun v H' ρ' w' s1 s2 s3 => ?_
    refine opsA_sound hcall hq rest (k + 1) ρ' H' w' _ _ (fun j => by have := hl (j + 1); simpa [Nat.add_assoc, Nat.add_comm 1] using this) (hs.trans s1) ((hr.ext s1.ext s1.next).put o.dst (.inr s2)) ?_ s3
    cases ho : o.dst <;> simpa [Act.put, ho] using hd

end Go.Proofs.YtlcfkeigipkhlaaGreatDoorAbs
