/- A region whose operations come up in any order: the plan's order tells of all orders. -/
import Derived.Test.YtlcfkeigipkhlaaGreatDoorWalk
set_option linter.unusedVariables false
set_option linter.unusedSimpArgs false
namespace Go.Proofs.YtlcfkeigipkhlaaGreatDoorAbs
open Go.RowKit
variable {P : Program} {ops : Array Oper}

theorem needAll_all {H : Heap} {r : Res (AV × Heap)} {Q : AV × Heap → Prop} : ∀ {hs : List Hold}, (needAll P H hs r).all Q → (∀ h ∈ hs, h.holds P H) ∧ r.all Q
  | [], h => ⟨by simp, h⟩
  | k :: hs, h => by
    obtain ⟨h1, h2⟩ := h
    obtain ⟨h3, h4⟩ := needAll_all h2
    refine ⟨fun x hx => ?_, h4⟩
    rcases List.mem_cons.1 hx with rfl | hx
    · cases x <;> exact h1
    · exact h3 x hx

theorem stepA_inert {call : FuncId → List AV → M} {o : Oper} {regs : List AV} {K : AV → M} {H : Heap} {Q : AV × Heap → Prop} (hk : kindA P o = .inert) (hx : (stepA P call ops o regs K H).all Q) :
    (wantedA ops o regs = some true ∧ (opA P o regs H).all fun r => (K r.1 r.2).all Q) ∨ (wantedA ops o regs = some false ∧ (K undefA H).all Q) := by
  unfold stepA at hx
  split at hx
  · rename_i hw
    left
    refine ⟨hw, ?_⟩
    split at hx
    · rename_i f args _ ho
      unfold kindA at hk
      rw [ho] at hk
      cases hk
    · exact Res.all_bind.1 hx
  · rename_i hw
    exact .inr ⟨hw, hx⟩
  · exact hx.elim

theorem late_guard {o : Oper} (hkind : kindA P o = .late) : o.guard = none := by
  unfold kindA at hkind
  cases hg : o.guard with
  | none => rfl
  | some g =>
    exfalso
    cases hop : o.op <;> simp only [hop, hg] at hkind <;> first
      | (cases hkind; done)
      | skip
    case makeFunc fn f c => cases fn <;> cases hkind
    case convert s d x => split at hkind <;> cases hkind
    case makeMap t r => cases r <;> cases hkind
    case call c =>
      obtain ⟨callee, args, ts⟩ := c
      cases callee with
      | builtin b =>
        cases b <;> simp only at hkind <;> first
          | (cases hkind; done)
          | (split at hkind
             · split at hkind <;> cases hkind
             · cases hkind)
      | _ => cases hkind

theorem stepA_late {call : FuncId → List AV → M} {o : Oper} {regs : List AV} {K : AV → M} {H : Heap} {Q : AV × Heap → Prop} (hk : kindA P o = .late) (hx : (stepA P call ops o regs K H).all Q) :
    ∃ ob mk, lateA P o regs = some (ob, mk) ∧ (K (mk H.next) (H.alloc ob)).all Q := by
  have hw : wantedA ops o regs = some true := by unfold wantedA; rw [late_guard hk]
  unfold stepA at hx
  rw [hw] at hx
  simp only at hx
  split at hx
  · rename_i f args _ ho
    unfold kindA at hk
    rw [ho] at hk
    cases hk
  · rw [late_opA hk] at hx
    cases hl : lateA P o regs with
    | none => rw [hl] at hx; exact hx.elim
    | some p =>
      obtain ⟨ob, mk⟩ := p
      rw [hl] at hx
      exact ⟨ob, mk, rfl, hx⟩

theorem isLate_kind {x : Nat × Nat × Oper} (h : isLate P x = true) : kindA P x.2.2 = .late := by
  unfold isLate at h
  split at h
  · assumption
  · cases h
theorem isInert_kind {x : Nat × Nat × Oper} (h : isInert P x = true) : kindA P x.2.2 = .inert := by
  unfold isInert at h
  split at h
  · assumption
  · cases h

theorem nodup_inj {α : Type} {f : α → Nat} : ∀ {l : List α}, (l.map f).Nodup → ∀ {x y : α}, x ∈ l → y ∈ l → f x = f y → x = y
  | [], _, x, y, hx, _, _ => by cases hx
  | a :: l, hn, x, y, hx, hy, he => by
    simp only [List.map_cons, List.nodup_cons] at hn
    rcases List.mem_cons.1 hx with hxa | hx
    · rcases List.mem_cons.1 hy with hya | hy
      · rw [hxa, hya]
      · exact absurd (List.mem_map.2 ⟨y, hy, by rw [← he, hxa]⟩) hn.1
    · rcases List.mem_cons.1 hy with hya | hy
      · exact absurd (List.mem_map.2 ⟨x, hx, by rw [he, hya]⟩) hn.1
      · exact nodup_inj hn.2 hx hy he

/-- What has been made is told. -/
theorem Inv.adopt {ρ0 : Env} {H0 : Heap} {w0 : World} {ds : List Deferred} {m : Nat} {E : List (Nat × Nat)} {L : Array Bool} {ρ : Env} {H : Heap} {w : World} {a : Act} {regs : List AV} {hs : List Hold} (h0 : HRel ρ0 H0 w0) (huniq : uniqDst P (numbered 0 ops.toList) = true)
    (I : Inv P ops ρ0 H0 w0 ds m E L ρ H w a regs hs) {x : Nat × Nat × Oper} (hx : x ∈ latesOf P ops (numbered 0 ops.toList) m) (hxE : x.1 ∈ E.map (·.1)) {ob : AObj} {mk : Nat → AV} (hla : lateA P x.2.2 regs = some (ob, mk)) :
    ∃ ρ', Ext H.next ρ ρ' ∧ Inv P ops ρ0 H0 w0 ds (addM m x.1) (E.filter fun e => e.1 != x.1) L ρ' (H.alloc ob) w a (putA regs x.2.2.dst (mk H.next)) hs := by
  obtain ⟨e0, he0, heq⟩ := List.mem_map.1 hxE
  obtain ⟨hxn, hxm, hxp⟩ := mem_readyM.1 (List.mem_filter.1 hx).1
  obtain ⟨hxo, hxq⟩ := mem_num0.1 hxn
  have hxl : isLate P x = true := by
    have := (List.mem_filter.1 hx).2
    simp only [Bool.and_eq_true] at this
    exact this.1
  obtain ⟨o, ob', mk', val, z, e1, e2, e3, e4, e5, e6, e7, e8, e9, e10⟩ := I.early e0 he0
  rw [heq, hxo] at e1
  injection e1 with e1
  subst e1
  rw [hla] at e3
  injection e3 with e3
  injection e3 with e31 e32
  subst e31 e32
  obtain ⟨l1, l2, l3, l4⟩ := lateA_ok I.rr hla
  have hs1 := Sim.adopt h0 I.s0 l1 e8 e4 e5 e6 e7
  have hext := Env.set_ext ρ H.next (some ⟨e0.2, 0, none⟩) z (⟨0, 0, none⟩, 0)
  have hnew : (ρ.set H.next (some ⟨e0.2, 0, none⟩) z (⟨0, 0, none⟩, 0)).addr H.next = some ⟨e0.2, 0, none⟩ := by simp
  refine ⟨_, hext, ⟨hs1, ?_, I.dd, I.lsz, ?_, ?_, ?_, ?_, ?_, ?_⟩⟩
  · refine (I.rr.ext hext (by simp)).told (l2 _) fun d hd hlt => ?_
    rw [e9 _ _ hnew]
    exact e10 d hd hlt
  · intro i
    rw [I.lst i, hasM_add, Bool.or_eq_true, decide_eq_true_eq]
    constructor
    · rintro (h | h)
      · exact .inl (.inl h)
      · obtain ⟨e, he, rfl⟩ := List.mem_map.1 h
        by_cases hh : e.1 = x.1
        · exact .inl (.inr hh.symm)
        · exact .inr (List.mem_map.2 ⟨e, List.mem_filter.2 ⟨he, by simpa using hh⟩, rfl⟩)
    · rintro ((h | h) | h)
      · exact .inl h
      · subst h; exact .inr hxE
      · obtain ⟨e, he, rfl⟩ := List.mem_map.1 h
        exact .inr (List.mem_map.2 ⟨e, (List.mem_filter.1 he).1, rfl⟩)
  · intro e he
    obtain ⟨he, hne⟩ := List.mem_filter.1 he
    have hne : e.1 ≠ x.1 := by simpa using hne
    obtain ⟨o', ob', mk', val', z', f1, f2, f3, f4, f5, f6, f7, f8, f9, f10⟩ := I.early e he
    have hem : hasM m e.1 = false := (mem_readyM.1 (List.mem_filter.1 f2).1).2.1
    have hfree : freeM ops (numbered 0 ops.toList) m (e.1, predM o', o') = true := by
      have := (List.mem_filter.1 f2).2
      simp only [Bool.and_eq_true] at this
      exact this.2
    have hap := freeM_spec hfree hxn (Ne.symm hne) hxm (by
      cases hh : hasM x.2.1 e.1
      · rfl
      · rw [hxp e.1 hh] at hem; cases hem)
    obtain ⟨ha1, ha2, ha3⟩ := Oper.apart_spec hap
    refine ⟨o', ob', mk', val', z', f1, latesOf_add f2 hne, ?_, f4, f5, fun hh => ?_, f7.ext hext f8, AObj.bd_mono (by simp) _ f8, f9, f10⟩
    · rw [lateA_put fun d hd y hy hyd => ?_]
      · exact f3
      · subst hyd
        exact ha3 d hd (List.mem_append_left _ (List.mem_filterMap.2 ⟨.tmp d, by simpa using hy, rfl⟩))
    · obtain ⟨i, y, hy, hy1, hy2⟩ := hh
      rw [Heap.get_alloc] at hy
      split at hy
      · rename_i hi
        subst hi
        rw [hnew] at hy2
        injection hy2 with hy2
        injection hy2 with hy2
        have := nodup_inj I.nd2 he0 he hy2
        subst this
        exact hne heq
      · exact f6 ⟨i, y, hy, hy1, by rw [← hext.addr i (I.s0.rel.lt i y hy)]; exact hy2⟩
  · exact I.nd1.sublist (List.filter_sublist.map _)
  · exact I.nd2.sublist (List.filter_sublist.map _)
  · exact fun h hm => ⟨holds_alloc I.s0.rel (I.holds h hm).1 (I.holds h hm).2, Hold.bd_mono (by simp) h (I.holds h hm).2⟩
  · intro y hy hyl hym d hd hlt
    rw [hasM_add, Bool.or_eq_false_iff] at hym
    have hyx : x.1 ≠ y.1 := by simpa using hym.2
    have := uniq_spec huniq hy hyl hxn hyx
    rw [put_junk (by rw [← hd]; exact this)]
    rw [put_length] at hlt
    exact I.junk y hy hyl hym.1 d hd hlt

theorem planK_sound {call : FuncId → List AV → M} (hcall : CallOK P call) (hsel : Region.noSelect ops = true) (huniq : uniqDst P (numbered 0 ops.toList) = true) {Q : Exit → Act → World → Prop} {K : List AV → M} {Q' : AV × Heap → Prop} {ds : List Deferred}
    {ρ0 : Env} {H0 : Heap} {w0 : World} (h0 : HRel ρ0 H0 w0) (hpanic : ∀ c a w, ¬Q (.panic c) a w)
    (hq : ∀ ρ H w a regs, Sim ρ0 H0 w0 ρ H w → RegRel ρ H.next regs a.tmps → a.defers = ds → (K regs H).all Q' → Q .normal a w) :
    ∀ (m : Nat) (pl : List PStep), Planned P ops (numbered 0 ops.toList) m pl → ∀ (fuel : Nat) (E : List (Nat × Nat)) (L : Array Bool) (ρ : Env) (H : Heap) (w : World) (a : Act) (regs : List AV) (hs : List Hold),
      Inv P ops ρ0 H0 w0 ds m E L ρ H w a regs hs → unl L ≤ fuel → (planK P call ops pl hs regs K H).all Q' → wpAnyV P ops Q fuel L (hs.map fun h => (h.num, h.real P ρ)) a w := by
  intro m pl hpl
  induction hpl with
  | done m hr =>
    intro fuel E L ρ H w a regs hs I hf hx
    have hready : Region.ready .any ops L = [] := by
      rw [List.eq_nil_iff_forall_not_mem]
      intro j hj
      obtain ⟨o, h1, h2, h3, h4, h5⟩ := I.ready hj
      have hE : ∀ k, k ∉ E.map (·.1) := by
        intro k hk
        obtain ⟨x, hx1, _⟩ := I.early_late hk
        have := (List.mem_filter.1 hx1).1
        rw [hr] at this
        cases this
      have : (j, predM o, o) ∈ readyM (numbered 0 ops.toList) m := mem_readyM.2 ⟨h4, h2, fun k hk => (h5 k hk).resolve_right (hE k)⟩
      rw [hr] at this
      cases this
    have hfin := hq ρ H w a regs I.s0 I.rr I.dd hx
    cases fuel with
    | zero => exact ⟨hready, hfin⟩
    | succ f => exact ⟨fun _ => hfin, by rw [hready]; simp⟩
  | inert m x rest h1 h2 h3 h4 ih =>
    intro fuel E L ρ H w a regs hs I hf hx
    obtain ⟨hxn, hxm, hxp⟩ := mem_readyM.1 h1
    obtain ⟨hxo, hxq⟩ := mem_num0.1 hxn
    have hkind := isInert_kind h2
    have hxE : x.1 ∉ E.map (·.1) := by
      intro hk
      obtain ⟨y, hy1, hy2⟩ := I.early_late hk
      have hy := num_eq (mem_readyM.1 (List.mem_filter.1 hy1).1).1 hxn hy2
      subst hy
      have := (List.mem_filter.1 hy1).2
      simp only [Bool.and_eq_true] at this
      have := isLate_kind this.1
      rw [hkind] at this
      cases this
    have hrdy := I.ready_of h1 hxE
    have hun := (mem_ready.1 hrdy).1
    have hunl := unl_set hun
    obtain ⟨f, rfl⟩ : ∃ f, fuel = f + 1 := ⟨fuel - 1, by omega⟩
    have hfree : ∀ j oj, ops[j]? = some oj → j ≠ x.1 → L.getD j true = false → (∀ e ∈ oj.after, Region.binds .any e = true → e.on ≠ x.1) → x.2.2.apart ops oj = true := by
      intro j oj hoj hji hjun hno
      refine freeM_spec (y := (j, predM oj, oj)) h3 (mem_num0.2 ⟨hoj, rfl⟩) hji ?_ ?_
      · cases hh : hasM m j
        · rfl
        · have := (I.lst j).2 (.inl hh)
          rw [(getD_iff.1 hjun).2] at this
          cases this
      · cases hh : hasM (predM oj) x.1
        · rfl
        · obtain ⟨e, e1, e2, e3⟩ := (predM_iff oj x.1).1 hh
          exact absurd e3 (hno e e1 e2)
    simp only [planK] at hx
    rcases stepA_inert hkind hx with ⟨hw, hx⟩ | ⟨hw, hx⟩
    · obtain ⟨v, H', ρ', s, hv, hbump, hx, hy⟩ := inertA_sound (i := x.1) I.s0.rel I.rr hkind hx
      simp only [hw] at hx
      have hkeep : ∀ h ∈ hs, h.holds P H' ∧ h.bd H'.next := fun h hm => ⟨Hold.holds_bump (I.holds h hm).1 hbump, Hold.bd_mono s.next h (I.holds h hm).2⟩
      rcases hy with ⟨hy, hh⟩ | ⟨k, hh, hkn, hkh, hkb, hy⟩
      · rw [hh] at hx
        simp only at hx
        have I' := I.next huniq h1 hxE s hv hkeep
        have := ih f E _ ρ' H' w _ _ hs I' (by omega) hx
        rw [reals_ext s.ext hs fun h hm => (I.holds h hm).2] at this
        refine wpAnyV_first (S := fun _ => True) hxo (Region.noSelect_spec hsel) (fun c a w h => absurd h (hpanic c _ w)) f L _ a w hfree hrdy ?_ trivial I.reals (wpAnyV_true _ _ _ _ _ _ this)
        exact .inl ⟨by rw [wantedA_sound I.rr hw], fun w1 _ => hy w1⟩
      · rw [hh] at hx
        simp only at hx
        have I' := I.next huniq h1 hxE s hv (hs' := k :: hs) fun h hm => by
          rcases List.mem_cons.1 hm with rfl | hm
          · exact ⟨hkh, hkb⟩
          · exact hkeep h hm
        have := ih f E _ ρ' H' w _ _ (k :: hs) I' (by omega) hx
        rw [List.map_cons, reals_ext s.ext hs fun h hm => (I.holds h hm).2, hkn] at this
        refine wpAnyV_first (S := k.real P ρ') hxo (Region.noSelect_spec hsel) (fun c a w h => absurd h (hpanic c _ w)) f L _ a w hfree hrdy ?_ (Hold.real_of s.rel k hkh) I.reals this
        exact .inl ⟨by rw [wantedA_sound I.rr hw], fun w1 h1 => hy w1 h1⟩
    · simp only [hw] at hx
      have I' := I.next huniq h1 hxE (Sim.refl I.s0.rel) (v := undefA) (by simp [undefA, AV.bd]) (hs' := hs) I.holds
      have := ih f E _ ρ H w _ _ hs I' (by omega) hx
      refine wpAnyV_first (S := fun _ => True) hxo (Region.noSelect_spec hsel) (fun c a w h => absurd h (hpanic c _ w)) f L _ a w hfree hrdy ?_ trivial I.reals (wpAnyV_true _ _ _ _ _ _ this)
      exact .inr ⟨wantedA_sound I.rr hw, by simp [undefA, ren, undef]⟩
  | hard m x rest h1 h2 h3 h4 ih =>
    intro fuel
    induction fuel with
    | zero =>
      intro E L ρ H w a regs hs I hf hx
      exfalso
      have hxE : x.1 ∉ E.map (·.1) := by
        intro hk
        obtain ⟨y, hy1, hy2⟩ := I.early_late hk
        have hy := num_eq (mem_readyM.1 (List.mem_filter.1 hy1).1).1 (mem_readyM.1 h1).1 hy2
        subst hy
        have := (List.mem_filter.1 hy1).2
        simp only [Bool.and_eq_true] at this
        rw [h2] at this
        cases this.1
      have := unl_set (mem_ready.1 (I.ready_of h1 hxE)).1
      omega
    | succ f ihf =>
      intro E L ρ H w a regs hs I hf hx
      obtain ⟨hxn, hxm, hxp⟩ := mem_readyM.1 h1
      obtain ⟨hxo, hxq⟩ := mem_num0.1 hxn
      have hxE : x.1 ∉ E.map (·.1) := by
        intro hk
        obtain ⟨y, hy1, hy2⟩ := I.early_late hk
        have hy := num_eq (mem_readyM.1 (List.mem_filter.1 hy1).1).1 hxn hy2
        subst hy
        have := (List.mem_filter.1 hy1).2
        simp only [Bool.and_eq_true] at this
        rw [h2] at this
        cases this.1
      have hrdy := I.ready_of h1 hxE
      have hx0 := hx
      simp only [planK] at hx
      by_cases hall : ((latesOf P ops (numbered 0 ops.toList) m).map (·.2.2)).all (fun o => (lateA P o regs).isSome) = true
      · rw [hall] at hx
        simp only at hx
        refine ⟨fun he => (by rw [he] at hrdy; cases hrdy), fun j hj => ?_⟩
        have hunl := unl_set (mem_ready.1 hj).1
        rcases I.ready_cases hj with ⟨y, hy1, hy2, hy3, hy4⟩ | ⟨y, hy1, hy2, hy3, hy4, hy5⟩
        · subst hy2
          refine I.early_step hy1 hy4 (List.all_eq_true.1 hall _ (List.mem_map.2 ⟨y, hy1, rfl⟩)) fun b w' val I' => ?_
          refine ⟨fun p hp => I'.reals p (List.mem_filter.1 hp).1, ?_⟩
          have := ihf _ _ ρ H w' _ regs hs I' (by omega) hx0
          exact wpAnyV_anti _ _ _ _ _ _ (fun p hp => (List.mem_filter.1 hp).1) this
        · have hyx := h3 y hy1
          subst hyx
          subst hy2
          refine stepA_sound hcall hxo I.s0.rel I.rr hx fun v H' ρ' w' s hv hK => ?_
          obtain ⟨hn1, hn2⟩ := needAll_all hK
          have hbd : ∀ h ∈ hs, h.bd H.next := fun h hm => (I.holds h hm).2
          have I' := I.next huniq h1 hxE s hv (hs' := hs.filter fun h => !hasM y.2.1 h.num) fun h hm => ⟨hn1 h hm, Hold.bd_mono s.next h (hbd h (List.mem_filter.1 hm).1)⟩
          rw [still_holds hxn]
          rw [← reals_ext s.ext _ fun h hm => hbd h (List.mem_filter.1 hm).1]
          exact ⟨I'.reals, ih f E _ ρ' H' w' _ _ _ I' (by omega) hn2⟩
      · rw [Bool.not_eq_true] at hall
        rw [hall] at hx
        exact hx.elim
  | late m x rest h1 h3 h4 ih =>
    have h1r := (List.mem_filter.1 h1).1
    have hxl : isLate P x = true := by
      have := (List.mem_filter.1 h1).2
      simp only [Bool.and_eq_true] at this
      exact this.1
    have hkind := isLate_kind hxl
    have told : ∀ (fuel : Nat) (E : List (Nat × Nat)) (L : Array Bool) (ρ : Env) (H : Heap) (w : World) (a : Act) (regs : List AV) (hs : List Hold),
        Inv P ops ρ0 H0 w0 ds m E L ρ H w a regs hs → unl L ≤ fuel → x.1 ∈ E.map (·.1) → (∃ ob mk, lateA P x.2.2 regs = some (ob, mk) ∧ (planK P call ops rest hs (putA regs x.2.2.dst (mk H.next)) K (H.alloc ob)).all Q') →
        wpAnyV P ops Q fuel L (hs.map fun h => (h.num, h.real P ρ)) a w := by
      intro fuel E L ρ H w a regs hs I hf hxE ⟨ob, mk, hla, hx⟩
      obtain ⟨ρ', hext, I'⟩ := I.adopt h0 huniq h1 hxE hla
      have := ih fuel _ L ρ' _ w a _ hs I' hf hx
      rw [reals_ext hext hs fun h hm => (I.holds h hm).2] at this
      exact this
    have open_ : ∀ {H : Heap} {regs : List AV} {hs : List Hold}, (planK P call ops (⟨x.1, x.2.1, x.2.2, .late, (latesOf P ops (numbered 0 ops.toList) m).map (·.2.2)⟩ :: rest) hs regs K H).all Q' →
        (∀ y ∈ latesOf P ops (numbered 0 ops.toList) m, (lateA P y.2.2 regs).isSome = true) ∧ ∃ ob mk, lateA P x.2.2 regs = some (ob, mk) ∧ (planK P call ops rest hs (putA regs x.2.2.dst (mk H.next)) K (H.alloc ob)).all Q' := by
      intro H regs hs hx
      simp only [planK] at hx
      by_cases hall : ((latesOf P ops (numbered 0 ops.toList) m).map (·.2.2)).all (fun o => (lateA P o regs).isSome) = true
      · rw [hall] at hx
        simp only at hx
        exact ⟨fun y hy => List.all_eq_true.1 hall _ (List.mem_map.2 ⟨y, hy, rfl⟩), stepA_late hkind hx⟩
      · rw [Bool.not_eq_true] at hall
        rw [hall] at hx
        exact hx.elim
    intro fuel
    induction fuel with
    | zero =>
      intro E L ρ H w a regs hs I hf hx
      by_cases hxE : x.1 ∈ E.map (·.1)
      · exact told 0 E L ρ H w a regs hs I hf hxE (open_ hx).2
      · have := unl_set (mem_ready.1 (I.ready_of h1r hxE)).1
        omega
    | succ f ihf =>
      intro E L ρ H w a regs hs I hf hx
      by_cases hxE : x.1 ∈ E.map (·.1)
      · exact told (f + 1) E L ρ H w a regs hs I hf hxE (open_ hx).2
      · have hrdy := I.ready_of h1r hxE
        obtain ⟨hsome, ob, mk, hla, hx1⟩ := open_ hx
        refine ⟨fun he => (by rw [he] at hrdy; cases hrdy), fun j hj => ?_⟩
        have hunl := unl_set (mem_ready.1 hj).1
        rcases I.ready_cases hj with ⟨y, hy1, hy2, hy3, hy4⟩ | ⟨y, hy1, hy2, hy3, hy4, hy5⟩
        · subst hy2
          refine I.early_step hy1 hy4 (hsome y hy1) fun b w' val I' => ?_
          refine ⟨fun p hp => I'.reals p (List.mem_filter.1 hp).1, ?_⟩
          have := ihf _ _ ρ H w' _ regs hs I' (by omega) hx
          exact wpAnyV_anti _ _ _ _ _ _ (fun p hp => (List.mem_filter.1 hp).1) this
        · exfalso
          rcases hy5 x.1 (h3 y hy1) with h | h
          · rw [(mem_readyM.1 h1r).2.1] at h; cases h
          · exact hxE h

end Go.Proofs.YtlcfkeigipkhlaaGreatDoorAbs
