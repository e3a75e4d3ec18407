/- A region whose operations come up in any order: the walk. -/
import Derived.Test.YtlcfkeigipkhlaaGreatDoorPlan
set_option linter.unusedVariables false
set_option linter.unusedSimpArgs false
namespace Go.Proofs.YtlcfkeigipkhlaaGreatDoorAbs
open Go.RowKit
variable {P : Program} {ops : Array Oper}

theorem wpAnyV_true {Q : Exit → Act → World → Prop} (k : Nat) : ∀ (fuel : Nat) (L : Array Bool) (Ss : List (Nat × (World → Prop))) (a : Act) (w : World), wpAnyV P ops Q fuel L Ss a w → wpAnyV P ops Q fuel L ((k, fun _ => True) :: Ss) a w
  | 0, _, _, _, _, h => h
  | fuel + 1, L, Ss, a, w, h => ⟨h.1, fun i hi => wpOp_mono (fun a' w' h' => by
      have hst : still ops i ((k, fun _ => True) :: Ss) = still ops i Ss ∨ still ops i ((k, fun _ => True) :: Ss) = (k, fun _ => True) :: still ops i Ss := by
        unfold still
        rw [List.filter_cons]
        split
        · exact .inr rfl
        · exact .inl rfl
      rcases hst with e | e
      · rw [e]; exact h'
      · rw [e]
        refine ⟨fun p hp => ?_, wpAnyV_true k fuel _ _ a' w' h'.2⟩
        rcases List.mem_cons.1 hp with rfl | hp
        · trivial
        · exact h'.1 p hp) (h.2 i hi)⟩

theorem RegRel.told {ρ : Env} {n : Nat} {regs : List AV} {tmps : Array Value} (h : RegRel ρ n regs tmps) {dst : Option Tmp} {v : AV} (hv : v.bd n) (ht : ∀ d, dst = some d → d < tmps.size → tmps[d]? = some (ren ρ v)) : RegRel ρ n (putA regs dst v) tmps := by
  cases dst with
  | none => exact h
  | some d =>
    refine ⟨by simp [putA, h.size], fun i u hu => ?_⟩
    simp only [putA, List.getElem?_set] at hu
    split at hu
    · rename_i hd
      subst hd
      split at hu
      · rename_i hlt
        injection hu with hu
        subst hu
        exact .inr ⟨ht d rfl (by rw [← h.size]; exact hlt), hv⟩
      · cases hu
    · exact h.at_ i u hu
theorem RegRel.untold {ρ : Env} {n : Nat} {regs : List AV} {a : Act} (h : RegRel ρ n regs a.tmps) {dst : Option Tmp} {v : Value} (hj : ∀ d, dst = some d → d < regs.length → regs[d]? = some .junk) : RegRel ρ n regs (a.put dst v).tmps := by
  cases dst with
  | none => exact h
  | some d =>
    refine ⟨by simp [Act.put, h.size], fun i u hu => ?_⟩
    simp only [Act.put, Array.getElem?_setIfInBounds]
    split
    · rename_i hd
      subst hd
      have hlt : d < regs.length := (List.getElem?_eq_some_iff.1 hu).1
      rw [hj d rfl hlt] at hu
      injection hu with hu
      exact .inl hu.symm
    · exact h.at_ i u hu

theorem num_eq {x y : Nat × Nat × Oper} (hx : x ∈ numbered 0 ops.toList) (hy : y ∈ numbered 0 ops.toList) (h : x.1 = y.1) : x = y := by
  have e1 := mem_num0.1 hx
  have e2 := mem_num0.1 hy
  obtain ⟨x1, x2, x3⟩ := x
  obtain ⟨y1, y2, y3⟩ := y
  simp only at h e1 e2
  subst h
  rw [e1.1] at e2
  obtain ⟨e2, e3⟩ := e2
  injection e2 with e2
  subst e2
  rw [e1.2, e3]

theorem freeM_spec {m : Nat} {x y : Nat × Nat × Oper} (h : freeM ops (numbered 0 ops.toList) m x = true) (hy : y ∈ numbered 0 ops.toList) (h1 : y.1 ≠ x.1) (h2 : hasM m y.1 = false) (h3 : hasM y.2.1 x.1 = false) : x.2.2.apart ops y.2.2 = true := by
  have := List.all_eq_true.1 h y hy
  simpa [h1, h2, h3] using this

theorem latesOf_add {m i : Nat} {x : Nat × Nat × Oper} (hx : x ∈ latesOf P ops (numbered 0 ops.toList) m) (hi : x.1 ≠ i) : x ∈ latesOf P ops (numbered 0 ops.toList) (addM m i) := by
  unfold latesOf at *
  rw [List.mem_filter] at *
  obtain ⟨h1, h2⟩ := hx
  obtain ⟨e1, e2, e3⟩ := mem_readyM.1 h1
  simp only [Bool.and_eq_true] at h2
  refine ⟨mem_readyM.2 ⟨e1, by rw [hasM_add, e2]; simpa using Ne.symm hi, fun k hk => by rw [hasM_add, e3 k hk]; rfl⟩, ?_⟩
  simp only [Bool.and_eq_true]
  refine ⟨h2.1, ?_⟩
  unfold freeM at *
  rw [List.all_eq_true] at *
  intro y hy
  have := h2.2 y hy
  simp only [Bool.or_eq_true, hasM_add] at this ⊢
  rcases this with ((h | h) | h) | h
  · exact .inl (.inl (.inl h))
  · exact .inl (.inl (.inr (.inl h)))
  · exact .inl (.inr h)
  · exact .inr h

theorem uniq_spec (h : uniqDst P (numbered 0 ops.toList) = true) {x y : Nat × Nat × Oper} (hx : x ∈ numbered 0 ops.toList) (hl : isLate P x = true) (hy : y ∈ numbered 0 ops.toList) (hne : y.1 ≠ x.1) : y.2.2.dst ≠ x.2.2.dst := by
  have := List.all_eq_true.1 h x hx
  rw [hl] at this
  simp only [Bool.not_true, Bool.false_or] at this
  have := List.all_eq_true.1 this y hy
  simpa [hne] using this

theorem put_junk {regs : List AV} {dst : Option Tmp} {v : AV} {d : Nat} (hne : dst ≠ some d) : (putA regs dst v)[d]? = regs[d]? := by
  cases dst with
  | none => rfl
  | some e =>
    have : e ≠ d := fun h => hne (by rw [h])
    simp [putA, List.getElem?_set_ne this]
theorem put_length (regs : List AV) (dst : Option Tmp) (v : AV) : (putA regs dst v).length = regs.length := by
  cases dst <;> simp [putA]

theorem holds_alloc {ρ : Env} {H : Heap} {w : World} (h : HRel ρ H w) {k : Hold} {ob : AObj} (hk : k.holds P H) (hb : k.bd H.next) : k.holds P (H.alloc ob) := by
  have hcells : ∀ id, id < H.next → (H.alloc ob).cells id = H.cells id := fun id hid => by
    unfold Heap.cells; rw [get_alloc_lt hid]
  cases k with
  | load i t a v =>
    simp only [Hold.holds, Hold.bd] at *
    have hat : ∀ n, (H.alloc ob).at_ a n = H.at_ a n := by
      intro n
      cases a with
      | ptr id off => simp only [AV.bd] at hb; simp only [Heap.at_]; rw [hcells id hb.1]
      | _ => rfl
    rw [← hk]
    unfold loadA ldA ld1
    simp only [hat]
  | look i t x k ok v =>
    simp only [Hold.holds, Hold.bd] at *
    have hent : entriesA x (H.alloc ob) = entriesA x H := by
      cases x with
      | mp r =>
        cases r with
        | none => rfl
        | some id => simp only [AV.bd] at hb; simp only [entriesA]; rw [get_alloc_lt hb.1]
      | _ => rfl
    rw [← hk]
    unfold lookupA
    simp only [hent]

section
variable {ρ0 : Env} {H0 : Heap} {w0 : World} {ds : List Deferred} {m : Nat} {E : List (Nat × Nat)} {L : Array Bool} {ρ : Env} {H : Heap} {w : World} {a : Act} {regs : List AV} {hs : List Hold}

theorem Inv.reals (I : Inv P ops ρ0 H0 w0 ds m E L ρ H w a regs hs) : ∀ p ∈ hs.map (fun h => (h.num, h.real P ρ)), p.2 w := by
  intro p hp
  obtain ⟨h, hh, rfl⟩ := List.mem_map.1 hp
  exact Hold.real_of I.s0.rel h (I.holds h hh).1

theorem reals_ext {ρ' : Env} {n : Nat} (he : Ext n ρ ρ') (hs : List Hold) (hb : ∀ h ∈ hs, h.bd n) : hs.map (fun h => (h.num, h.real P ρ')) = hs.map (fun h => (h.num, h.real P ρ)) :=
  List.map_congr_left fun h hh => by rw [Hold.real_ext he h (hb h hh)]

theorem still_holds {x : Nat × Nat × Oper} (hx : x ∈ numbered 0 ops.toList) (hs : List Hold) : still ops x.1 (hs.map fun h => (h.num, h.real P ρ)) = (hs.filter fun h => !hasM x.2.1 h.num).map fun h => (h.num, h.real P ρ) := by
  obtain ⟨e1, e2⟩ := mem_num0.1 hx
  unfold still
  rw [List.filter_map]
  congr 1
  refine List.filter_congr fun h _ => ?_
  simp only [Function.comp, waitsFor, e1, e2]

/-- Behind an operation that the plan tells as it comes up. -/
theorem Inv.next (huniq : uniqDst P (numbered 0 ops.toList) = true) (I : Inv P ops ρ0 H0 w0 ds m E L ρ H w a regs hs) {x : Nat × Nat × Oper} (hx : x ∈ readyM (numbered 0 ops.toList) m) (hxE : x.1 ∉ E.map (·.1))
    {v : AV} {H' : Heap} {ρ' : Env} {w' : World} (s : Sim ρ H w ρ' H' w') (hv : v.bd H'.next) {hs' : List Hold} (hh : ∀ h ∈ hs', h.holds P H' ∧ h.bd H'.next) :
    Inv P ops ρ0 H0 w0 ds (addM m x.1) E (L.setIfInBounds x.1 true) ρ' H' w' (a.put x.2.2.dst (ren ρ' v)) (putA regs x.2.2.dst v) hs' := by
  obtain ⟨hxn, hxm, hxp⟩ := mem_readyM.1 hx
  obtain ⟨hxo, hxq⟩ := mem_num0.1 hxn
  have hxs : x.1 < L.size := by rw [I.lsz]; exact (Array.getElem?_eq_some_iff.1 hxo).1
  refine ⟨I.s0.trans s, (I.rr.ext s.ext s.next).put _ (.inr hv), ?_, by simp [I.lsz], ?_, ?_, I.nd1, I.nd2, hh, ?_⟩
  · have := I.dd
    cases hd : x.2.2.dst <;> simpa [Act.put, hd] using this
  · intro i
    rw [getD_set hxs, I.lst i, hasM_add, Bool.or_eq_true, decide_eq_true_eq]
    constructor
    · rintro ((h | h) | h)
      · exact .inl (.inl h)
      · exact .inr h
      · exact .inl (.inr h.symm)
    · rintro ((h | h) | h)
      · exact .inl (.inl h)
      · exact .inr h.symm
      · exact .inl (.inr h)
  · intro e he
    obtain ⟨o, ob, mk, val, z, e1, e2, e3, e4, e5, e6, e7, e8, e9, e10⟩ := I.early e he
    have hne : e.1 ≠ x.1 := fun h => hxE (List.mem_map.2 ⟨e, he, h⟩)
    have hem : hasM m e.1 = false := (mem_readyM.1 (List.mem_filter.1 e2).1).2.1
    have hfree : freeM ops (numbered 0 ops.toList) m (e.1, predM o, o) = true := by
      have := (List.mem_filter.1 e2).2
      simp only [Bool.and_eq_true] at this
      exact this.2
    have hap := freeM_spec hfree hxn (Ne.symm hne) hxm (by
      cases hh : hasM x.2.1 e.1
      · rfl
      · rw [hxp e.1 hh] at hem; cases hem)
    obtain ⟨ha1, ha2, ha3⟩ := Oper.apart_spec hap
    refine ⟨o, ob, mk, val, z, e1, latesOf_add e2 hne, ?_, e4, Nat.lt_of_lt_of_le e5 s.size, fun hh => e6 (s.old _ e5 hh), ?_, AObj.bd_mono s.next _ e8, e9, fun d hd hlt => ?_⟩
    · rw [lateA_put fun d hd y hy hyd => ?_]
      · exact e3
      · subst hyd
        exact ha3 d hd (List.mem_append_left _ (List.mem_filterMap.2 ⟨.tmp d, by simpa using hy, rfl⟩))
    · exact (e7.congr (s.frame _ e5 e6)).ext s.ext e8
    · have hne2 : x.2.2.dst ≠ some d := ha2 d hd
      cases hdst : x.2.2.dst with
      | none => simp only [Act.put, hdst] at hlt ⊢; exact e10 d hd hlt
      | some c =>
        have hcd : c ≠ d := fun h => hne2 (by rw [hdst, h])
        simp only [Act.put, hdst] at hlt ⊢
        rw [Array.getElem?_setIfInBounds_ne hcd]
        exact e10 d hd (by simpa using hlt)
  · intro y hy hyl hym d hd hlt
    rw [hasM_add, Bool.or_eq_false_iff] at hym
    have hyx : x.1 ≠ y.1 := by simpa using hym.2
    have := uniq_spec huniq hy hyl hxn hyx
    rw [put_junk (by rw [← hd]; exact this)]
    rw [put_length] at hlt
    exact I.junk y hy hyl hym.1 d hd hlt

/-- A maker that comes up before the plan tells of it. -/
theorem Inv.early_step (I : Inv P ops ρ0 H0 w0 ds m E L ρ H w a regs hs) {Q : Exit → Act → World → Prop} {x : Nat × Nat × Oper} (hx : x ∈ latesOf P ops (numbered 0 ops.toList) m) (hxE : x.1 ∉ E.map (·.1)) (hsome : (lateA P x.2.2 regs).isSome = true) {Kr : Act → World → Prop}
    (hk : ∀ b w' val, Inv P ops ρ0 H0 w0 ds m ((x.1, b) :: E) (L.setIfInBounds x.1 true) ρ H w' (a.put x.2.2.dst val) regs hs → Kr (a.put x.2.2.dst val) w') : wpOp P ops Q x.1 Kr a w := by
  have hx1 := (List.mem_filter.1 hx).1
  have hx2 := (List.mem_filter.1 hx).2
  simp only [Bool.and_eq_true] at hx2
  obtain ⟨hxn, hxm, hxp⟩ := mem_readyM.1 hx1
  obtain ⟨hxo, hxq⟩ := mem_num0.1 hxn
  have hxs : x.1 < L.size := by rw [I.lsz]; exact (Array.getElem?_eq_some_iff.1 hxo).1
  have hkind : kindA P x.2.2 = .late := by
    have := hx2.1
    unfold isLate at this
    split at this
    · assumption
    · cases this
  have hguard : x.2.2.guard = none := by
    unfold kindA at hkind
    cases hg : x.2.2.guard with
    | none => rfl
    | some g =>
      exfalso
      cases hop : x.2.2.op <;> simp only [hop, hg] at hkind <;> first
        | (cases hkind; done)
        | skip
      case makeFunc fn f c => cases fn <;> cases hkind
      case convert s d x => split at hkind <;> cases hkind
      case makeMap t r => cases r <;> cases hkind
      case call c =>
        obtain ⟨callee, args, ts⟩ := c
        cases callee with
        | builtin b =>
          cases b <;> simp only at hkind <;> first
            | (cases hkind; done)
            | (split at hkind
               · split at hkind <;> cases hkind
               · cases hkind)
        | _ => cases hkind
  obtain ⟨⟨ob, mk⟩, hla⟩ := Option.isSome_iff_exists.1 hsome
  obtain ⟨l1, l2, l3, l4⟩ := lateA_ok I.rr hla
  have hopA : (opA P x.2.2 regs H).all fun r => r = (mk H.next, H.alloc ob) := by rw [late_opA hkind, hla]; rfl
  obtain ⟨v, H', ρ', w', r1, s, r3, r4⟩ := opA_sound I.s0.rel I.rr hopA
  injection r4 with r4 r5
  subst r4 r5
  have hrun : (execOp a.eval x.2.2).run P w = .ok (.value (ren ρ' (mk H.next))) w' := by
    rcases r1 with r1 | ⟨_, r1⟩
    · exact r1
    · exact absurd r1 (l3 _)
  obtain ⟨s', b, b1, b2, b3, b4, b5, b6⟩ := Sim.unborn I.s0.rel s l1
  have hobd := lateA_bd I.rr hla
  unfold wpOp
  rw [hxo]
  simp only
  rw [if_pos (by unfold Region.wanted; rw [hguard])]
  refine .inl ?_
  unfold Oper.wp
  rw [hrun]
  show Kr (a.put x.2.2.dst (ren ρ' (mk H.next))) w'
  refine hk b w' _ ⟨I.s0.trans s', I.rr.untold (I.junk x hxn hx2.1 hxm), ?_, by simp [I.lsz], ?_, ?_, ?_, ?_, I.holds, I.junk⟩
  · have := I.dd
    cases hd : x.2.2.dst <;> simpa [Act.put, hd] using this
  · intro i
    rw [getD_set hxs, I.lst i]
    simp only [List.map_cons, List.mem_cons]
    constructor
    · rintro ((h | h) | h)
      · exact .inl h
      · exact .inr (.inr h)
      · exact .inr (.inl h)
    · rintro (h | h | h)
      · exact .inl (.inl h)
      · exact .inr h
      · exact .inl (.inr h)
  · intro e he
    rcases List.mem_cons.1 he with rfl | he
    · refine ⟨x.2.2, ob, mk, ren ρ' (mk H.next), ρ'.rs H.next, hxo, by rw [← hxq]; exact hx, hla, Nat.le_trans I.s0.size b2, b3, b4, b5.ext s.ext.symm hobd, hobd, fun ρ1 n hn => l4 ρ1 ρ' n H.next (by rw [hn, b1]), fun d hd hlt => ?_⟩
      simp only [Act.put, hd] at hlt ⊢
      have hlt' : d < a.tmps.size := by simpa using hlt
      simp [hlt']
    · obtain ⟨o, ob', mk', val, z, e1, e2, e3, e4, e5, e6, e7, e8, e9, e10⟩ := I.early e he
      refine ⟨o, ob', mk', val, z, e1, e2, e3, e4, Nat.lt_of_lt_of_le e5 s'.size, e6, e7.congr (s'.frame _ e5 e6), e8, e9, fun d hd hlt => ?_⟩
      have hne : e.1 ≠ x.1 := fun h => hxE (List.mem_map.2 ⟨e, he, h⟩)
      have hfree : freeM ops (numbered 0 ops.toList) m (e.1, predM o, o) = true := by
        have := (List.mem_filter.1 e2).2
        simp only [Bool.and_eq_true] at this
        exact this.2
      have hem : hasM m e.1 = false := (mem_readyM.1 (List.mem_filter.1 e2).1).2.1
      have hap := freeM_spec hfree hxn (Ne.symm hne) hxm (by
        cases hh : hasM x.2.1 e.1
        · rfl
        · rw [hxp e.1 hh] at hem; cases hem)
      obtain ⟨ha1, ha2, ha3⟩ := Oper.apart_spec hap
      have hne2 : x.2.2.dst ≠ some d := ha2 d hd
      cases hdst : x.2.2.dst with
      | none => simp only [Act.put, hdst] at hlt ⊢; exact e10 d hd hlt
      | some c =>
        have hcd : c ≠ d := fun h => hne2 (by rw [hdst, h])
        simp only [Act.put, hdst] at hlt ⊢
        rw [Array.getElem?_setIfInBounds_ne hcd]
        exact e10 d hd (by simpa using hlt)
  · simp only [List.map_cons, List.nodup_cons]
    exact ⟨hxE, I.nd1⟩
  · simp only [List.map_cons, List.nodup_cons]
    refine ⟨fun h => ?_, I.nd2⟩
    obtain ⟨e, he, heb⟩ := List.mem_map.1 h
    obtain ⟨o, ob', mk', val, z, e1, e2, e3, e4, e5, _⟩ := I.early e he
    omega
end

end Go.Proofs.YtlcfkeigipkhlaaGreatDoorAbs
