/- Makers of objects: what they make is told when the abstract machine comes to them, though it may stand there before. -/
import Derived.Test.YtlcfkeigipkhlaaGreatDoorLate
set_option linter.unusedVariables false
set_option linter.unusedSimpArgs false
namespace Go.Proofs.YtlcfkeigipkhlaaGreatDoorAbs
open Go.RowKit
variable {P : Program}

theorem late_opA {o : Oper} (hk : kindA P o = .late) (regs : List AV) (H : Heap) : opA P o regs H = match lateA P o regs with
    | some (ob, mk) => .ret (mk H.next, H.alloc ob)
    | none => .fail := by
  unfold kindA at hk
  unfold opA lateA
  cases hop : o.op <;> simp only [hop] at hk ⊢ <;> first | (cases hk; done) | skip
  case alloc t =>
    cases hz : zeroA P t with
    | none => rfl
    | some z =>
      simp only [ofO, newA]
      by_cases hc : z.cells.all AV.cell = true
      · rw [if_pos hc, if_pos hc]
      · rw [if_neg hc, if_neg hc]
  case box t x =>
    cases hz : evA regs x with
    | none => rfl
    | some z =>
      simp only [ofO, newA]
      by_cases hc : z.cells.all AV.cell = true
      · rw [if_pos hc, if_pos hc]
      · rw [if_neg hc, if_neg hc]
  case buildSlice t len ps =>
    cases h1 : evParts regs ps.toList with
    | none => rfl
    | some parts =>
      simp only [ofO, buildSliceA]
      cases h2 : elemA P t with
      | none => rfl
      | some e =>
        simp only
        cases h3 : zcellsA P e with
        | none => rfl
        | some z =>
          simp only
          by_cases hc : len * z.length ≤ 16777216
          · rw [if_pos hc, if_pos hc]
            cases hf : fillA (fun i => some (i * z.length, z.length)) (repeatL z len) parts with
            | none => rfl
            | some cs =>
              simp only
              by_cases hc : cs.all AV.cell = true
              · rw [if_pos hc, if_pos hc]
              · rw [if_neg hc, if_neg hc]
          · rw [if_neg hc, if_neg hc]
  case makeSlice t l c =>
    cases h1 : evA regs l with
    | none => rfl
    | some lv =>
      simp only [ofO]
      cases h2 : evA regs c with
      | none => cases lv <;> rfl
      | some cv =>
        simp only [makeSliceA]
        cases h3 : elemA P t with
        | none => cases lv <;> cases cv <;> rfl
        | some e =>
          cases lv <;> cases cv <;> simp only <;> first | rfl | skip
          rename_i k l k' c
          cases hz : zcellsA P e with
          | none => rfl
          | some z =>
            cases hb : bytA P e with
            | none => rfl
            | some b =>
              simp only
              by_cases hc : 0 ≤ l ∧ l ≤ c ∧ (b : Int) * c ≤ 281474976710656 ∧ c ≤ 9223372036854775807
              · rw [if_pos hc, if_pos hc]
              · rw [if_neg hc, if_neg hc]
  case makeMap t r =>
    cases r with
    | none => rfl
    | some _ => cases hg : o.guard <;> simp [hg] at hk
  case makeFunc fn f c => exfalso; cases fn <;> cases hk
  case convert s d x => exfalso; split at hk <;> cases hk
  case call c =>
    exfalso
    obtain ⟨callee, args, ts⟩ := c
    cases callee with
    | builtin b =>
      cases b <;> simp only at hk <;> first
        | (cases hk; done)
        | (split at hk
           · split at hk <;> cases hk
           · cases hk)
    | _ => cases hk

theorem evA_put {regs : List AV} {dst : Option Tmp} {v : AV} {x : Operand} (h : ∀ d, dst = some d → x ≠ .tmp d) : evA (putA regs dst v) x = evA regs x := by
  cases dst with
  | none => rfl
  | some d =>
    cases x with
    | tmp t =>
      have hne : d ≠ t := fun e => h d rfl (e ▸ rfl)
      simp [evA, putA, List.getElem?_set_ne hne]
    | _ => rfl
theorem evParts_put {regs : List AV} {dst : Option Tmp} {v : AV} : ∀ {l : List (Nat × Operand)}, (∀ p ∈ l, ∀ d, dst = some d → p.2 ≠ .tmp d) → evParts (putA regs dst v) l = evParts regs l
  | [], _ => rfl
  | (i, x) :: l, h => by
    simp only [evParts]
    rw [evA_put (h (i, x) (by simp)), evParts_put fun p hp => h p (List.mem_cons_of_mem _ hp)]

theorem lateA_put {o : Oper} {regs : List AV} {dst : Option Tmp} {v : AV} (h : ∀ d, dst = some d → ∀ x ∈ o.op.operands, x ≠ .tmp d) : lateA P o (putA regs dst v) = lateA P o regs := by
  unfold lateA
  cases hop : o.op <;> simp only [hop] at h ⊢
  case box t x => rw [evA_put fun d hd => h d hd x (by simp [Op.operands])]
  case buildSlice t len ps => rw [evParts_put fun p hp d hd => h d hd p.2 (by
    simp only [Op.operands]
    exact List.mem_toArray.2 (List.mem_map.2 ⟨p, hp, rfl⟩))]
  case makeSlice t l c => rw [evA_put fun d hd => h d hd l (by simp [Op.operands]), evA_put fun d hd => h d hd c (by simp [Op.operands])]
  case makeMap t r => cases r <;> rfl

/-- What is made is an own object, of known parts; its value names it. -/
theorem lateA_ok {ρ : Env} {n : Nat} {o : Oper} {regs : List AV} {tmps : Array Value} {ob : AObj} {mk : Nat → AV} (hr : RegRel ρ n regs tmps) (h : lateA P o regs = some (ob, mk)) :
    ob.own = true ∧ (∀ m, (mk m).bd (m + 1)) ∧ (∀ m, mk m ≠ undefA) ∧ ∀ (ρ1 ρ2 : Env) (m1 m2 : Nat), ρ1.addr m1 = ρ2.addr m2 → ren ρ1 (mk m1) = ren ρ2 (mk m2) := by
  unfold lateA at h
  split at h
  · split at h
    · split at h
      · injection h with h; injection h with h1 h2; subst h1 h2
        exact ⟨rfl, fun m => by simp [AV.bd], fun m => by simp [undefA], fun r1 r2 m1 m2 he => by simp [ren, he]⟩
      · cases h
    · cases h
  · split at h
    · split at h
      · injection h with h; injection h with h1 h2; subst h1 h2
        exact ⟨rfl, fun m => by simp [AV.bd], fun m => by simp [undefA], fun r1 r2 m1 m2 he => by simp [ren, he]⟩
      · cases h
    · cases h
  · split at h
    · split at h
      · split at h
        · split at h
          · split at h
            · injection h with h; injection h with h1 h2; subst h1 h2
              exact ⟨rfl, fun m => by simp [AV.bd], fun m => by simp [undefA], fun r1 r2 m1 m2 he => by simp [ren, he]⟩
            · cases h
          · cases h
        · cases h
      · cases h
    · cases h
  · split at h
    · split at h
      · split at h
        · injection h with h; injection h with h1 h2; subst h1 h2
          exact ⟨rfl, fun m => by simp [AV.bd], fun m => by simp [undefA], fun r1 r2 m1 m2 he => by simp [ren, he]⟩
        · cases h
      · cases h
    · cases h
  · injection h with h; injection h with h1 h2; subst h1 h2
    exact ⟨rfl, fun m => by simp [AV.bd], fun m => by simp [undefA], fun r1 r2 m1 m2 he => by simp [ren, he]⟩
  · cases h

/-! ### Unborn, and adopted -/
theorem Ext.symm {n : Nat} {ρ ρ' : Env} (h : Ext n ρ ρ') : Ext n ρ' ρ := ⟨fun i hi => (h.addr i hi).symm, fun i hi => (h.rs i hi).symm, fun i hi => (h.emp i hi).symm⟩

theorem get_alloc_lt {H : Heap} {ob : AObj} {i : Nat} (h : i < H.next) : (H.alloc ob).get i = H.get i := by
  rw [Heap.get_alloc, if_neg (by omega)]

/-- What has been made may be left untold: the rest stands. -/
theorem Sim.unborn {ρ ρ' : Env} {H : Heap} {w w' : World} {ob : AObj} (h : HRel ρ H w) (s : Sim ρ H w ρ' (H.alloc ob) w') (ho : ob.own = true) :
    Sim ρ H w ρ H w' ∧ ∃ b, ρ'.addr H.next = some ⟨b, 0, none⟩ ∧ w.heap.size ≤ b ∧ b < w'.heap.size ∧ ¬Owned ρ H b ∧ ORel ρ' w' b (ρ'.rs H.next) ob ∧ ob.bd (H.next + 1) := by
  have hnext : (H.alloc ob).get H.next = some ob := by rw [Heap.get_alloc, if_pos rfl]
  have hget : ∀ i x, H.get i = some x → (H.alloc ob).get i = some x := fun i x hx => by rw [get_alloc_lt (h.lt i x hx)]; exact hx
  have hown : ∀ b, Owned ρ H b → Owned ρ' (H.alloc ob) b := by
    rintro b ⟨i, x, h1, h2, h3⟩
    exact ⟨i, x, hget i x h1, h2, by rw [s.ext.addr i (h.lt i x h1)]; exact h3⟩
  have hback : ∀ (v : AV), v.bd H.next → ren ρ' v = ren ρ v := fun v hv => ren_ext s.ext v hv
  obtain ⟨b, b1, b2, b3⟩ := s.rel.own H.next ob hnext ho
  have hbn : ¬Owned ρ H b := by
    rintro ⟨i, x, h1, h2, h3⟩
    have hi := h.lt i x h1
    have := s.rel.inj i H.next x ob (hget i x h1) hnext h2 ho (by rw [s.ext.addr i hi, h3, b1])
    omega
  have hbs : w.heap.size ≤ b := by
    rcases Nat.lt_or_ge b w.heap.size with hb | hb
    · exact absurd (s.old b hb ⟨H.next, ob, hnext, ho, b1⟩) hbn
    · exact hb
  have hrel : HRel ρ H w' := by
    refine ⟨h.lt, ?_, h.inj, ?_, h.roa, ?_, ?_, h.bd⟩
    · intro i x hx hxo
      obtain ⟨c, c1, c2, c3⟩ := s.rel.own i x (hget i x hx) hxo
      have hi := h.lt i x hx
      refine ⟨c, by rw [← s.ext.addr i hi]; exact c1, c2, ?_⟩
      rw [← s.ext.rs i hi]
      exact c3.ext s.ext.symm (h.bd i x hx)
    · intro i cs hx k v hv
      obtain ⟨ad, c1, c2, c3⟩ := s.rel.ro i cs (hget i _ hx) k v hv
      exact ⟨ad, by rw [← s.ext.addr i (h.lt i _ hx)]; exact c1, by rw [← hback v (h.bd i _ hx v (List.mem_of_getElem? hv))]; exact c2, fun ho => c3 (hown _ ho)⟩
    · intro i es hx
      obtain ⟨c, c1, c2, c3⟩ := s.rel.rom i es (hget i _ hx)
      exact ⟨c, by rw [← s.ext.addr i (h.lt i _ hx)]; exact c1, ORel.ext (o := .map es) c2 s.ext.symm (show AObj.bd _ (.map es) from h.bd i (.rom es) hx), fun ho => c3 (hown _ ho)⟩
    · intro g cs hg k v hv
      obtain ⟨c1, c2, c3⟩ := s.rel.gl g cs hg k v hv
      have hb := (h.gl g cs hg k v hv).2.1
      exact ⟨by rw [← hback v hb]; exact c1, hb, fun ho => c3 (hown _ ho)⟩
  exact ⟨⟨hrel, Ext.refl _ _, Nat.le_refl _, s.os, s.tape, s.output, s.size, s.frame, fun _ _ ho => ho, rfl, fun _ _ h _ => h, fun _ _ h _ => h⟩, b, b1, hbs, b2, hbn, b3, s.rel.bd H.next ob hnext⟩

/-- A block that nobody of the told owns becomes a told object. -/
theorem Sim.adopt {ρ0 ρ : Env} {H0 H : Heap} {w0 w : World} {ob : AObj} {b z : Nat} (h0 : HRel ρ0 H0 w0) (s : Sim ρ0 H0 w0 ρ H w) (ho : ob.own = true) (hbd : ob.bd H.next) (h1 : w0.heap.size ≤ b) (h2 : b < w.heap.size) (h3 : ¬Owned ρ H b) (hr : ORel ρ w b z ob) :
    Sim ρ0 H0 w0 (ρ.set H.next (some ⟨b, 0, none⟩) z (⟨0, 0, none⟩, 0)) (H.alloc ob) w := by
  have h := s.rel
  generalize hρ : ρ.set H.next (some ⟨b, 0, none⟩) z (⟨0, 0, none⟩, 0) = ρ' at *
  have hext : Ext H.next ρ ρ' := by rw [← hρ]; exact Env.set_ext _ _ _ _ _
  have hnew : ρ'.addr H.next = some ⟨b, 0, none⟩ := by rw [← hρ]; simp
  have hrs : ρ'.rs H.next = z := by rw [← hρ]; simp
  have hown : ∀ k, Owned ρ' (H.alloc ob) k → k = b ∨ Owned ρ H k := by
    rintro k ⟨i, x, hx, hx1, hx2⟩
    rw [Heap.get_alloc] at hx
    split at hx
    · rename_i hi; subst hi
      rw [hnew] at hx2
      injection hx2 with hx2
      injection hx2 with hx2
      exact .inl hx2.symm
    · exact .inr ⟨i, x, hx, hx1, by rw [← hext.addr i (h.lt i x hx)]; exact hx2⟩
  have hget : ∀ i x, H.get i = some x → (H.alloc ob).get i = some x := fun i x hx => by rw [get_alloc_lt (h.lt i x hx)]; exact hx
  have hmade : ∀ i x, (H.alloc ob).get i = some x → x.own = false → H.get i = some x := by
    intro i x hx hxo
    rw [Heap.get_alloc] at hx
    split at hx
    · injection hx with hx; subst hx; rw [ho] at hxo; cases hxo
    · exact hx
  refine ⟨⟨?_, ?_, ?_, ?_, ?_, ?_, ?_, ?_⟩, s.ext.trans hext s.next, Nat.le_trans s.next (by simp), s.os, s.tape, s.output, s.size, s.frame, ?_, s.gl, ?_, ?_⟩
  · intro i x hx
    rw [Heap.get_alloc] at hx
    simp only [Heap.next_alloc]
    split at hx
    · omega
    · have := h.lt i x hx; omega
  · intro i x hx hxo
    rw [Heap.get_alloc] at hx
    split at hx
    · rename_i hi; subst hi
      injection hx with hx
      subst hx
      exact ⟨b, hnew, h2, by rw [hrs]; exact hr.ext hext hbd⟩
    · obtain ⟨c, e1, e2, e3⟩ := h.own i x hx hxo
      have hi := h.lt i x hx
      refine ⟨c, by rw [hext.addr i hi]; exact e1, e2, ?_⟩
      rw [hext.rs i hi]
      exact e3.ext hext (h.bd i x hx)
  · intro i j x y hx hy hxo hyo he
    rw [Heap.get_alloc] at hx hy
    have side : ∀ i x, H.get i = some x → x.own = true → ρ'.addr i ≠ some ⟨b, 0, none⟩ := by
      intro i x hx hxo e
      rw [hext.addr i (h.lt i x hx)] at e
      exact h3 ⟨i, x, hx, hxo, e⟩
    split at hx
    · rename_i hi; subst hi
      split at hy
      · rename_i hj; exact hj.symm
      · exact absurd (he ▸ hnew) (side j y hy hyo)
    · split at hy
      · rename_i hj; subst hj; exact absurd (he.trans hnew) (side i x hx hxo)
      · rw [hext.addr i (h.lt i x hx), hext.addr j (h.lt j y hy)] at he
        exact h.inj i j x y hx hy hxo hyo he
  · intro i cs hx k v hv
    have hx := hmade i _ hx rfl
    obtain ⟨ad, e1, e2, e3⟩ := h.ro i cs hx k v hv
    refine ⟨ad, by rw [hext.addr i (h.lt i _ hx)]; exact e1, by rw [ren_ext hext v (h.bd i _ hx v (List.mem_of_getElem? hv))]; exact e2, fun hh => ?_⟩
    rcases hown _ hh with hh | hh
    · have hx0 := s.made i _ hx rfl
      obtain ⟨ad0, f1, f2, f3⟩ := h0.ro i cs hx0 k v hv
      rw [s.ext.addr i (h0.lt i _ hx0), f1] at e1
      injection e1 with e1
      subst e1
      have := cell?_lt f2
      rw [add_block] at this
      omega
    · exact e3 hh
  · intro i cs hx
    have hx := hmade i _ hx rfl
    obtain ⟨ad, e⟩ := h.roa i cs hx
    exact ⟨ad, by rw [hext.addr i (h.lt i _ hx)]; exact e⟩
  · intro i es hx
    have hx := hmade i _ hx rfl
    obtain ⟨c, e1, e2, e3⟩ := h.rom i es hx
    refine ⟨c, by rw [hext.addr i (h.lt i _ hx)]; exact e1, e2.ext hext (show AObj.bd _ (.map es) from h.bd i (.rom es) hx), fun hh => ?_⟩
    rcases hown _ hh with hh | hh
    · have hx0 := s.made i _ hx rfl
      obtain ⟨c0, f1, f2, f3⟩ := h0.rom i es hx0
      rw [s.ext.addr i (h0.lt i _ hx0), f1] at e1
      injection e1 with e1
      injection e1 with e1
      obtain ⟨ents, g1, _⟩ := f2
      have := (Array.getElem?_eq_some_iff.1 g1).1
      omega
    · exact e3 hh
  · intro g cs hg k v hv
    obtain ⟨e1, e2, e3⟩ := h.gl g cs hg k v hv
    refine ⟨by rw [ren_ext hext v e2]; exact e1, AV.bd_mono (by simp) v e2, fun hh => ?_⟩
    rcases hown _ hh with hh | hh
    · have hg0 : H0.gl g = some cs := by rw [← s.gl]; exact hg
      have := cell?_lt (h0.gl g cs hg0 k v hv).1
      rw [add_block] at this
      simp only at this
      omega
    · exact e3 hh
  · intro i x hx
    rw [Heap.get_alloc] at hx
    split at hx
    · injection hx with hx; subst hx; exact AObj.bd_mono (by simp) _ hbd
    · exact AObj.bd_mono (by simp) _ (h.bd i x hx)
  · intro k hk hh
    rcases hown k hh with hh | hh
    · omega
    · exact s.old k hk hh
  · intro i x hx hxo
    exact hget i x (s.keep i x hx hxo)
  · intro i x hx hxo
    exact s.made i x (hmade i x hx hxo) hxo

end Go.Proofs.YtlcfkeigipkhlaaGreatDoorAbs
