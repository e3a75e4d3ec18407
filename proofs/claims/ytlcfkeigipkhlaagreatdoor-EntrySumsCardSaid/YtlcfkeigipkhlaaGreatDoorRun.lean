/- The abstract machine's run is sound: regions, code, calls. -/
import Derived.Test.YtlcfkeigipkhlaaGreatDoorRegion
import Derived.LoopN
import Derived.Scope
set_option linter.unusedVariables false
set_option linter.unusedSimpArgs false
namespace Go.Proofs.YtlcfkeigipkhlaaGreatDoorAbs
open Go.RowKit
variable {P : Program}

/-! ### Regions -/
theorem RegRel.forgets {ρ : Env} {n : Nat} {tmps : Array Value} : ∀ (l : List (Nat × Nat × Oper)) {regs : List AV}, RegRel ρ n regs tmps → RegRel ρ n (forget P regs l) tmps
  | [], regs, h => h
  | x :: l, regs, h => by
    simp only [forget]
    split
    · refine RegRel.forgets l ?_
      cases hd : x.2.2.dst with
      | none => exact h
      | some d =>
        refine ⟨by simp [putA, h.size], fun i u hu => ?_⟩
        simp only [putA, List.getElem?_set] at hu
        split at hu
        · split at hu
          · injection hu with hu; exact .inl hu.symm
          · cases hu
        · exact h.at_ i u hu
    · exact RegRel.forgets l h
theorem forget_length : ∀ (l : List (Nat × Nat × Oper)) (regs : List AV), (forget P regs l).length = regs.length
  | [], regs => rfl
  | x :: l, regs => by
    simp only [forget]
    split
    · rw [forget_length l, put_length]
    · exact forget_length l regs
theorem forget_keeps {d : Nat} : ∀ (l : List (Nat × Nat × Oper)) (regs : List AV), regs[d]? = some .junk → (forget P regs l)[d]? = some .junk
  | [], regs, h => h
  | x :: l, regs, h => by
    simp only [forget]
    split
    · refine forget_keeps l _ ?_
      cases hd : x.2.2.dst with
      | none => exact h
      | some e =>
        simp only [putA, List.getElem?_set]
        split
        · rename_i he
          subst he
          rw [if_pos (List.getElem?_eq_some_iff.1 h).1]
        · exact h
    · exact forget_keeps l regs h
theorem forget_junk {x : Nat × Nat × Oper} (hl : isLate P x = true) {d : Nat} (hd : x.2.2.dst = some d) : ∀ (l : List (Nat × Nat × Oper)) (regs : List AV), x ∈ l → d < regs.length → (forget P regs l)[d]? = some .junk
  | [], regs, hx, hlt => by cases hx
  | y :: l, regs, hx, hlt => by
    simp only [forget]
    rcases List.mem_cons.1 hx with hxy | hx
    · subst hxy
      rw [hl]
      refine forget_keeps l _ ?_
      simp [putA, hd, hlt]
    · split
      · exact forget_junk hl hd l _ hx (by rw [put_length]; exact hlt)
      · exact forget_junk hl hd l _ hx hlt

theorem regA_sound {call : FuncId → List AV → M} (hcall : CallOK P call) {id : Nat} {ops : Array Oper} {draw : Bool} {Q : Exit → Act → World → Prop} {K : List AV → M} {Q' : AV × Heap → Prop} {ρ : Env} {H : Heap} {w : World} {a : Act} {regs : List AV}
    (h : HRel ρ H w) (hr : RegRel ρ H.next regs a.tmps) (hpanic : ∀ c a w, ¬Q (.panic c) a w)
    (hq : ∀ ρ' H' w' a' regs', Sim ρ H w ρ' H' w' → RegRel ρ' H'.next regs' a'.tmps → a'.defers = a.defers → (K regs' H').all Q' → Q .normal a' w')
    (hx : (regA P call ops draw regs K H).all Q') : (Code.region id ops draw).wp P Q a w := by
  cases draw with
  | false =>
    refine wp_region ?_
    have hx : (opsA P call ops ops.toList regs K H).all Q' := hx
    have := opsA_sound hcall (ds := a.defers) (fun ρ' H' w' a' regs' => hq ρ' H' w' a' regs') ops.toList 0 ρ H w a regs (fun j => by simp) (Sim.refl h) hr rfl hx
    simpa using this
  | true =>
    simp only [regA] at hx
    cases hpl : planA P ops (numbered 0 ops.toList) ops.size 0 with
    | none => rw [hpl] at hx; exact hx.elim
    | some pl =>
      rw [hpl] at hx
      simp only at hx
      cases hc : (P.follows .mixedOrders && Region.noSelect ops && uniqDst P (numbered 0 ops.toList)) with
      | false => rw [hc] at hx; exact hx.elim
      | true =>
        rw [hc] at hx
        simp only at hx
        simp only [Bool.and_eq_true] at hc
        obtain ⟨⟨hm, hsel⟩, huniq⟩ := hc
        refine wp_region_any hm ?_
        refine wpAny_of_V _ _ [] _ _ ?_
        have hd := Sim.drawn (w' := { w with drawn := w.drawn + 1 }) h rfl rfl rfl rfl
        have I : Inv P ops ρ H { w with drawn := w.drawn + 1 } a.defers 0 [] (Array.replicate ops.size false) ρ H { w with drawn := w.drawn + 1 } a (forget P regs (numbered 0 ops.toList)) [] := by
          refine ⟨Sim.refl hd.rel, hr.forgets _, rfl, by simp, fun i => ?_, by simp, by simp, by simp, by simp, fun x hx hl _ d hd hlt => ?_⟩
          · rw [hasM_zero]
            simp only [List.map_nil, List.not_mem_nil, or_false, Bool.false_eq_true, iff_false]
            rcases Nat.lt_or_ge i ops.size with hi | hi
            · simp [hi]
            · simp [Array.getElem?_eq_none, hi]
          · rw [forget_length] at hlt
            exact forget_junk hl hd _ _ hx hlt
        have hun : unl (Array.replicate ops.size false) ≤ ops.size := by
          unfold unl
          exact Nat.le_trans List.countP_le_length (by simp)
        exact planK_sound hcall hsel huniq hd.rel hpanic (fun ρ' H' w' a' regs' s => hq ρ' H' w' a' regs' (hd.trans s)) 0 pl (planned _ _ _ hpl) ops.size [] _ ρ H _ a _ [] I hun hx

/-! ### Code -/
def AExit.toExit : AExit → Exit
  | .norm => .normal
  | .exit id => .exit id
  | .ret => .ret

def PostA (ρ : Env) (H : Heap) (w : World) (ds : List Deferred) (K : AExit → List AV → M) (Q' : AV × Heap → Prop) : Exit → Act → World → Prop := fun e a' w' =>
  ∃ x regs' ρ' H', e = AExit.toExit x ∧ a'.defers = ds ∧ RegRel ρ' H'.next regs' a'.tmps ∧ Sim ρ H w ρ' H' w' ∧ (K x regs' H').all Q'

theorem PostA.panic {ρ : Env} {H : Heap} {w : World} {ds : List Deferred} {K : AExit → List AV → M} {Q' : AV × Heap → Prop} (c : List PanicEntry) (a : Act) (w' : World) : ¬PostA ρ H w ds K Q' (.panic c) a w' := by
  rintro ⟨x, _, _, _, h, _⟩
  cases x <;> cases h

theorem keepFrom_rel {ρ : Env} {n m : Nat} {tmps : Array Value} : ∀ (l : List AV) (k i : Nat) (v : AV), (keepFrom m k l)[i]? = some v → v = .junk ∨ l[i]? = some v
  | [], k, i, v, h => by simp [keepFrom] at h
  | u :: l, k, 0, v, h => by
    simp only [keepFrom, List.getElem?_cons_zero] at h
    split at h
    · injection h with h; subst h; exact .inr rfl
    · injection h with h; exact .inl h.symm
  | u :: l, k, i + 1, v, h => by
    simp only [keepFrom, List.getElem?_cons_succ] at h ⊢
    exact keepFrom_rel (ρ := ρ) (n := n) (tmps := tmps) l (k + 1) i v h
theorem keepFrom_length (m : Nat) : ∀ (l : List AV) (k : Nat), (keepFrom m k l).length = l.length
  | [], k => rfl
  | u :: l, k => by simp [keepFrom, keepFrom_length m l]
theorem RegRel.keep {ρ : Env} {n : Nat} {regs : List AV} {tmps : Array Value} (h : RegRel ρ n regs tmps) (k : Option Nat) : RegRel ρ n (keepA k regs) tmps := by
  cases k with
  | none => exact h
  | some m =>
    refine ⟨by simp [keepA, keepFrom_length, h.size], fun i v hv => ?_⟩
    rcases keepFrom_rel (ρ := ρ) (n := n) (tmps := tmps) regs 0 i v hv with e | e
    · exact .inl e
    · exact h.at_ i v e

theorem codeA_sound {call : FuncId → List AV → M} (hcall : CallOK P call) (n : Nat) {Q' : AV × Heap → Prop} : ∀ (c : Code) (t : Ann) (K : AExit → List AV → M) (ρ : Env) (H : Heap) (w : World) (a : Act) (regs : List AV),
    HRel ρ H w → RegRel ρ H.next regs a.tmps → (codeA P call n c t regs K H).all Q' → c.wp P (PostA ρ H w a.defers K Q') a w := by
  intro c
  induction c with
  | skip =>
    intro t K ρ H w a regs h hr hx
    exact wp_skip ⟨.norm, regs, ρ, H, rfl, rfl, hr, Sim.refl h, hx⟩
  | region id ops draw =>
    intro t K ρ H w a regs h hr hx
    refine regA_sound hcall (K := K .norm) h hr (fun c a w => PostA.panic c a w) (fun ρ' H' w' a' regs' s hr' hd hk => ⟨.norm, regs', ρ', H', rfl, hd, hr', s, hk⟩) hx
  | seq x y ihx ihy =>
    intro t K ρ H w a regs h hr hx
    simp only [codeA] at hx
    refine wp_seq (wp_mono (ihx t.l _ ρ H w a regs h hr hx) fun e a' w' hp => ?_)
    obtain ⟨x', regs', ρ', H', rfl, hd, hr', s, hk⟩ := hp
    cases x' with
    | norm =>
      show y.wp P _ a' w'
      simp only at hk
      refine wp_mono (ihy t.r K ρ' H' w' a' _ s.rel (hr'.keep _) hk) fun e a'' w'' hp => ?_
      obtain ⟨x'', regs'', ρ'', H'', rfl, hd', hr'', s', hk'⟩ := hp
      exact ⟨x'', regs'', ρ'', H'', rfl, hd'.trans hd, hr'', s.trans s', hk'⟩
    | exit id => exact ⟨.exit id, regs', ρ', H', rfl, hd, hr', s, hk⟩
    | ret => exact ⟨.ret, regs', ρ', H', rfl, hd, hr', s, hk⟩
  | cond o x y ihx ihy =>
    intro t K ρ H w a regs h hr hx
    simp only [codeA] at hx
    obtain ⟨v, h1, hx⟩ := ofO_all hx
    obtain ⟨e1, _, _⟩ := evA_ren hr h1
    split at hx
    · exact wp_cond_true (by rw [e1]; simp [ren]) (ihx t.l K ρ H w a regs h hr hx)
    · exact wp_cond_false (by rw [e1]; simp [ren]) (ihy t.r K ρ H w a regs h hr hx)
    · exact hx.elim
  | block id c ih =>
    intro t K ρ H w a regs h hr hx
    simp only [codeA] at hx
    refine wp_block (wp_mono (ih t _ ρ H w a regs h hr hx) fun e a' w' hp => ?_)
    obtain ⟨x', regs', ρ', H', rfl, hd, hr', s, hk⟩ := hp
    cases x' with
    | norm => exact ⟨.norm, regs', ρ', H', rfl, hd, hr', s, hk⟩
    | ret => exact ⟨.ret, regs', ρ', H', rfl, hd, hr', s, hk⟩
    | exit j =>
      simp only [AExit.toExit, Exit.inBlock]
      simp only at hk
      by_cases hj : j = id
      · rw [if_pos hj]
        have : Nat.beq j id = true := by rw [hj]; exact Nat.beq_refl id
        rw [this] at hk
        exact ⟨.norm, regs', ρ', H', rfl, hd, hr', s, hk⟩
      · rw [if_neg hj]
        have : Nat.beq j id = false := by
          cases hb : Nat.beq j id
          · rfl
          · exact absurd (Nat.eq_of_beq_eq_true hb) hj
        rw [this] at hk
        exact ⟨.exit j, regs', ρ', H', rfl, hd, hr', s, hk⟩
  | loop c ih =>
    intro t K ρ H w a regs h hr hx
    simp only [codeA] at hx
    refine wp_loop_rounds n ?_
    have key : ∀ (k : Nat) (ρ' : Env) (H' : Heap) (w' : World) (a' : Act) (regs' : List AV), Sim ρ H w ρ' H' w' → RegRel ρ' H'.next regs' a'.tmps → a'.defers = a.defers → (loopA (codeA P call n c t.l) t.k k regs' K H').all Q' → Code.rounds P c (PostA ρ H w a.defers K Q') k a' w' := by
      intro k
      induction k with
      | zero => intro ρ' H' w' a' regs' s hr' hd hx; exact hx.elim
      | succ k ihk =>
        intro ρ' H' w' a' regs' s hr' hd hx
        simp only [loopA] at hx
        rw [rounds_succ]
        refine wp_mono (ih t.l _ ρ' H' w' a' _ s.rel (hr'.keep _) hx) fun e a'' w'' hp => ?_
        obtain ⟨x'', regs'', ρ'', H'', rfl, hd', hr'', s', hk'⟩ := hp
        cases x'' with
        | norm => exact ihk ρ'' H'' w'' a'' regs'' (s.trans s') hr'' (hd'.trans hd) hk'
        | exit id => exact ⟨.exit id, regs'', ρ'', H'', rfl, hd'.trans hd, hr'', s.trans s', hk'⟩
        | ret => exact ⟨.ret, regs'', ρ'', H'', rfl, hd'.trans hd, hr'', s.trans s', hk'⟩
    exact key n ρ H w a regs (Sim.refl h) hr rfl hx
  | scope c ih =>
    intro t K ρ H w a regs h hr hx
    simp only [codeA] at hx
    refine wp_scope_straight (wp_mono (ih t K ρ H w a regs h hr hx) fun e a' w' hp => ?_)
    obtain ⟨x', regs', ρ', H', rfl, hd, hr', s, hk⟩ := hp
    cases x' with
    | norm => exact ⟨.norm, regs', ρ', H', rfl, hd, hr', s, hk⟩
    | exit id => exact ⟨.exit id, regs', ρ', H', rfl, hd, hr', s, hk⟩
    | ret => exact ⟨.ret, regs', ρ', H', rfl, hd, hr', s, hk⟩
  | exit id =>
    intro t K ρ H w a regs h hr hx
    exact wp_exit ⟨.exit id, regs, ρ, H, rfl, rfl, hr, Sim.refl h, hx⟩
  | ret =>
    intro t K ρ H w a regs h hr hx
    exact wp_ret ⟨.ret, regs, ρ, H, rfl, rfl, hr, Sim.refl h, hx⟩
  | rangeFunc f ps x y _ _ => intro t K ρ H w a regs h hr hx; exact hx.elim
  | label l => intro t K ρ H w a regs h hr hx; exact hx.elim
  | goto l => intro t K ρ H w a regs h hr hx; exact hx.elim
  | refuse s => intro t K ρ H w a regs h hr hx; exact hx.elim

/-! ### Calls -/
theorem resL_sound {ρ : Env} {H : Heap} {w : World} {a : Act} {regs : List AV} (h : HRel ρ H w) (hr : RegRel ρ H.next regs a.tmps) {F : ResultVar → Sem Value} (hF1 : ∀ t, F (.tmp t) = pure (a.tmps.getD t undef)) (hF2 : ∀ c t, F (.cell c t) = (do loadVar t (← asAddr (a.tmps.getD c undef)))) : ∀ {l : List ResultVar} {vs : List AV}, resL P regs H l = some vs →
    (l.mapM F).run P w = .ok (vs.map (ren ρ)) w ∧ ∀ v ∈ vs, v.bd H.next
  | [], vs, e => by simp [resL] at e; subst e; simp
  | .tmp t :: l, vs, e => by
    simp only [resL] at e
    split at e
    · rename_i v vs' h1 h2
      injection e with e
      subst e
      obtain ⟨e1, e2, _⟩ := evA_ren hr h1
      obtain ⟨e3, e4⟩ := resL_sound h hr hF1 hF2 h2
      refine ⟨?_, fun u hu => ?_⟩
      · simp only [List.mapM_cons, hF1, Sem.run_bind, Sem.run_pure, Result.andThen_ok, e3, List.map_cons]
        simp only [Act.eval] at e1
        rw [e1]
      · rcases List.mem_cons.1 hu with rfl | hu
        · exact e2
        · exact e4 u hu
    · cases e
  | .cell c t :: l, vs, e => by
    simp only [resL] at e
    split at e
    · rename_i v vs' h1 h2
      injection e with e
      subst e
      cases hc : evA regs (.tmp c) with
      | none => simp [hc] at h1
      | some av =>
        simp only [hc, Option.bind_some] at h1
        obtain ⟨e1, e2, _⟩ := evA_ren hr hc
        obtain ⟨f1, f2⟩ := loadA_sound (P := P) h h1
        obtain ⟨e3, e4⟩ := resL_sound h hr hF1 hF2 h2
        refine ⟨?_, fun u hu => ?_⟩
        · simp only [Act.eval] at e1
          have hl : (do loadVar t (← asAddr (a.tmps.getD c undef)) : Sem Value).run P w = .ok (ren ρ v) w := by
            rw [e1]
            have hat : ∃ ad, ren ρ av = .pointer (some ad) := by
              unfold loadA at h1
              split at h1
              · unfold ldA at h1
                cases hh : H.at_ av _ with
                | none => rw [hh] at h1; cases h1
                | some l => obtain ⟨_, _, _, ad, g, _⟩ := h.at_ hh; exact ⟨ad, g⟩
              · unfold ld1 at h1
                split at h1
                · rename_i hh; obtain ⟨_, _, _, ad, g, _⟩ := h.at_ hh; exact ⟨ad, g⟩
                · cases h1
              · cases h1
            obtain ⟨ad, hat⟩ := hat
            rw [hat] at f1 ⊢
            simpa [Instr.loadAt, Instr.sureAddr, asAddr] using f1
          simp only [List.mapM_cons, hF2, List.map_cons]
          rw [Sem.run_bind, hl]
          simp only [Sem.run_bind, Result.andThen_ok] at e3 ⊢
          simp only [Result.andThen_ok, e3, Sem.run_pure]
        · rcases List.mem_cons.1 hu with rfl | hu
          · exact f2
          · exact e4 u hu
    · cases e

theorem resA_sound {ρ : Env} {H : Heap} {w : World} {a : Act} {regs : List AV} {fn : Func} {v : AV} (h : HRel ρ H w) (hr : RegRel ρ H.next regs a.tmps) (hx : resA P fn regs H = some v) : (results fn a.tmps).run P w = .ok (ren ρ v) w ∧ v.bd H.next := by
  unfold resA at hx
  have hrun : ∀ vs, resL P regs H fn.results.toList = some vs → (results fn a.tmps).run P w = .ok (if h : (vs.map (ren ρ)).toArray.size = 1 then (vs.map (ren ρ)).toArray[0] else .tuple (vs.map (ren ρ)).toArray) w ∧ ∀ v ∈ vs, v.bd H.next := by
    intro vs hvs
    unfold results
    rw [Array.mapM_eq_mapM_toList]
    simp only [map_eq_pure_bind, bind_assoc, Sem.run_bind]
    obtain ⟨e1, e2⟩ := resL_sound h hr (F := fun | .tmp t => pure (a.tmps.getD t undef) | .cell c t => do loadVar t (← asAddr (a.tmps.getD c undef))) (fun _ => rfl) (fun _ _ => rfl) hvs
    refine ⟨?_, e2⟩
    refine (congrArg (fun r => Result.andThen r _) (e1 : _ = _)).trans ?_
    simp
  split at hx
  · rename_i v' hvs
    injection hx with hx
    subst hx
    obtain ⟨e1, e2⟩ := hrun _ hvs
    exact ⟨by rw [e1]; simp, e2 v' (by simp)⟩
  · rename_i vs hne hvs
    injection hx with hx
    subst hx
    obtain ⟨e1, e2⟩ := hrun _ hvs
    refine ⟨?_, by simpa [AV.bd] using e2⟩
    rw [e1, dif_neg]
    · simp [ren]
    · intro h1
      have hl : vs.length = 1 := by simpa using h1
      obtain ⟨u, rfl⟩ := List.length_eq_one_iff.1 hl
      exact hne u rfl
  · cases hx

/-- What the library's functions without bodies are told to do is what they do. -/
def ExtOK (P : Program) (L : Lib) : Prop :=
  ∀ (f : FuncId) (fn : Func) (args : List AV) (ρ : Env) (H : Heap) (w : World) (Q : AV × Heap → Prop), P.funcs[f]? = some fn → fn.body = none → HRel ρ H w → (∀ v ∈ args, v.bd H.next) → (L.ext fn args H).all Q → Came P ρ H w f args Q

/-- What is told of a function is what it does. -/
def SumOK (P : Program) (L : Lib) : Prop :=
  ∀ (f : FuncId) (m : List AV → M) (args : List AV) (ρ : Env) (H : Heap) (w : World) (Q : AV × Heap → Prop), L.sum f = some m → HRel ρ H w → (∀ v ∈ args, v.bd H.next) → (m args H).all Q → Came P ρ H w f args Q

theorem callA_sound {L : Lib} (hsum : SumOK P L) (hext : ExtOK P L) (hnum : ∀ (f : FuncId) (fn : Func), P.funcs[f]? = some fn → (fn.name == "runtime.NumGoroutine") = false) : ∀ n, CallOK P (callA P L n)
  | 0 => fun g args ρ H w Q h hb hx => hx.elim
  | n + 1 => fun g args ρ H w Q h hb hx => by
    simp only [callA] at hx
    cases hm : L.sum g with
    | some m =>
      rw [hm] at hx
      exact hsum g m args ρ H w Q hm h hb hx
    | none =>
    rw [hm] at hx
    simp only at hx
    cases hf : P.funcs[g]? with
    | none => rw [hf] at hx; exact hx.elim
    | some fn =>
      rw [hf] at hx
      simp only at hx
      cases hbody : fn.body with
      | none =>
        rw [hbody] at hx
        exact hext g fn args ρ H w Q hf hbody h hb hx
      | some c =>
        rw [hbody] at hx
        simp only at hx
        left
        refine ⟨by have := hnum g fn hf; simp only [beq_eq_false_iff_ne, ne_eq] at this; simp [callFunc, hf, hbody, this, Sem.run], ?_⟩
        refine calls_of_wp hf hbody ?_
        have hr : RegRel ρ H.next (args ++ junks (fn.ntmps - args.length)) ((args.map (ren ρ)).toArray ++ Array.replicate (fn.ntmps - (args.map (ren ρ)).toArray.size) undef) := by
          refine ⟨by simp [junks_length], fun i v hv => ?_⟩
          by_cases hi : i < args.length
          · rw [List.getElem?_append_left hi] at hv
            refine .inr ⟨?_, hb v (List.mem_of_getElem? hv)⟩
            rw [Array.getElem?_append_left (by simpa using hi)]
            simp [hv]
          · rw [List.getElem?_append_right (by omega)] at hv
            exact .inl (junks_mem (List.mem_of_getElem? hv))
        refine wp_mono (codeA_sound (callA_sound hsum hext hnum n) n c (L.ann g) _ ρ H w { tmps := (args.map (ren ρ)).toArray ++ Array.replicate (fn.ntmps - (args.map (ren ρ)).toArray.size) undef, defers := [] } _ h hr hx) fun e a' w' hp => ?_
        obtain ⟨x, regs', ρ', H', rfl, hd, hr', s, hk⟩ := hp
        cases x with
        | exit id => exact hk.elim
        | norm =>
          obtain ⟨v, hv, hq⟩ := ofO_all hk
          obtain ⟨e1, e2⟩ := resA_sound s.rel hr' hv
          exact ⟨hd, _, e1, v, H', ρ', rfl, s, e2, hq⟩
        | ret =>
          obtain ⟨v, hv, hq⟩ := ofO_all hk
          obtain ⟨e1, e2⟩ := resA_sound s.rel hr' hv
          exact ⟨hd, _, e1, v, H', ρ', rfl, s, e2, hq⟩

end Go.Proofs.YtlcfkeigipkhlaaGreatDoorAbs
