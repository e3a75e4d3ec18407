/- From arguments that are read as data to the abstract heap: what is read stands there as rows that nobody writes. -/
import Derived.Test.YtlcfkeigipkhlaaGreatDoorW2
import Derived.ChangeArms
import Derived.ReadAgain
import Derived.Below
set_option linter.unusedVariables false
set_option linter.unusedSimpArgs false
namespace Go.Proofs.YtlcfkeigipkhlaaGreatDoorAbs
open Go.ChangeShapes Go.WideShapes Go.RowKit
variable {P : Program}

def contig (P : Program) : Nat → List Field → Bool
  | _, [] => true
  | off, f :: fs => f.offset == off && contig P (off + P.cellsOf f.type) fs
def sizeFs (P : Program) (fs : List Field) : Nat := (fs.map fun f => P.cellsOf f.type).sum
/-- Types of bools, whole numbers, texts, structs and slices of such. -/
def plainOK (P : Program) : Nat → TypeId → Bool
  | 0, _ => false
  | n + 1, t => match P.underlying t with
    | some .bool => P.cellsOf t == 1
    | some (.int _) => P.cellsOf t == 1
    | some .string => P.cellsOf t == 1
    | some (.slice e) => P.cellsOf t == 1 && (plainOK P n e && decide (0 < P.cellsOf e))
    | some (.struct fs) => contig P 0 fs.toList && (sizeFs P fs.toList == P.cellsOf t && fs.toList.all fun f => plainOK P n f.type)
    | _ => false
def DenFs (P : Program) (D : TypeId → List AV → Prop) : List Field → List AV → Prop
  | [], as => as = []
  | f :: fs, as => ∃ a b, as = a ++ b ∧ a.length = P.cellsOf f.type ∧ D f.type a ∧ DenFs P D fs b
/-- What cells of a type may be. -/
def Den (P : Program) (H : Heap) : Nat → TypeId → List AV → Prop
  | 0, _, _ => False
  | n + 1, t, as => match P.underlying t with
    | some .bool => ∃ b, as = [.bool b]
    | some (.int k) => ∃ z, as = [.int k z] ∧ k.min ≤ z ∧ z ≤ k.max
    | some .string => ∃ s : ByteArray, as = [.str s] ∧ s.size ≤ maxLen
    | some (.struct fs) => DenFs P (Den P H n) fs.toList as
    | some (.slice e) => as = [.nils] ∨ (∃ id, as = [.emp id] ∧ id < H.next) ∨ ∃ id css cap, as = [.sl id 0 css.length (.exact cap)] ∧ css ≠ [] ∧ css.length ≤ maxLen ∧ id < H.next ∧ H.get id = some (.ro (flat css)) ∧ ∀ c ∈ css, c.length = P.cellsOf e ∧ Den P H n e c
    | _ => False
theorem DenFs.mono {D D' : TypeId → List AV → Prop} (h : ∀ t a, D t a → D' t a) : ∀ fs as, DenFs P D fs as → DenFs P D' fs as
  | [], as, hd => hd
  | f :: fs, as, ⟨a, b, h1, h2, h3, h4⟩ => ⟨a, b, h1, h2, h _ _ h3, DenFs.mono h fs b h4⟩
theorem Den.mono {H H' : Heap} (g : Grown H H') : ∀ n t as, Den P H n t as → Den P H' n t as
  | 0, _, _, h => h
  | n + 1, t, as, h => by
    unfold Den at h ⊢
    split at h
    · exact h
    · exact h
    · exact h
    · exact DenFs.mono (fun t a => Den.mono g n t a) _ _ h
    · rcases h with h | ⟨id, h, hid⟩ | ⟨id, css, cap, h1, h2, h3, h4, h5, h6⟩
      · exact .inl h
      · exact .inr (.inl ⟨id, h, Nat.lt_of_lt_of_le hid g.next⟩)
      · exact .inr (.inr ⟨id, css, cap, h1, h2, h3, Nat.lt_of_lt_of_le h4 g.next, by rw [g.get id h4]; exact h5, fun c hc => ⟨(h6 c hc).1, Den.mono g n _ _ (h6 c hc).2⟩⟩)
    · exact h
theorem DenFs.len {D : TypeId → List AV → Prop} : ∀ fs as, DenFs P D fs as → as.length = sizeFs P fs
  | [], as, h => by rw [h]; rfl
  | f :: fs, as, ⟨a, b, h1, h2, h3, h4⟩ => by
    have := DenFs.len fs b h4
    rw [h1]
    simp only [List.length_append, sizeFs, List.map_cons, List.sum_cons] at this ⊢
    omega
theorem Den.len {H : Heap} : ∀ n t as, plainOK P n t = true → Den P H n t as → as.length = P.cellsOf t
  | 0, _, _, _, h => h.elim
  | n + 1, t, as, hp, h => by
    unfold plainOK at hp
    unfold Den at h
    split at h
    · rename_i hu; rw [hu] at hp; obtain ⟨b, rfl⟩ := h; simpa using (beq_iff_eq.1 hp).symm
    · rename_i hu; rw [hu] at hp; obtain ⟨b, rfl, _⟩ := h; simpa using (beq_iff_eq.1 hp).symm
    · rename_i hu; rw [hu] at hp; obtain ⟨b, rfl, _⟩ := h; simpa using (beq_iff_eq.1 hp).symm
    · rename_i hu
      rw [hu] at hp
      simp only [Bool.and_eq_true, beq_iff_eq] at hp
      rw [DenFs.len _ _ h, hp.2.1]
    · rename_i hu
      rw [hu] at hp
      simp only [Bool.and_eq_true, beq_iff_eq] at hp
      rcases h with rfl | ⟨id, rfl, _⟩ | ⟨id, css, cap, rfl, _⟩ <;> simp [hp.1]
    · exact h.elim

/-- Nothing there is one's own. -/
def NoOwn (H : Heap) : Prop := ∀ id o, H.get id = some o → o.own = false
theorem NoOwn.owned {ρ : Env} {H : Heap} (h : NoOwn H) (b : Nat) : ¬Owned ρ H b := by
  rintro ⟨id, o, h1, h2, _⟩
  rw [h id o h1] at h2
  cases h2
/-- A row that is read. -/
theorem HRel.addRo {ρ : Env} {H : Heap} {W : World} (h : HRel ρ H W) (hn : NoOwn H) {a : Addr} {L : List AV} (hb : ∀ v ∈ L, v.bd H.next) (hc : ∀ j v, L[j]? = some v → W.cell? (a.add j) = some (ren ρ v)) :
    HRel (ρ.set H.next (some a) 0 (a, 0)) (H.alloc (.ro L)) W ∧ NoOwn (H.alloc (.ro L)) := by
  have hx : Ext H.next ρ (ρ.set H.next (some a) 0 (a, 0)) := Env.set_ext _ _ _ _ _
  have hn' : NoOwn (H.alloc (.ro L)) := by
    intro id o hg
    rw [Heap.get_alloc] at hg
    split at hg
    · injection hg with hg; subst hg; rfl
    · exact hn id o hg
  refine ⟨⟨?_, ?_, ?_, ?_, ?_, ?_, ?_, ?_⟩, hn'⟩
  · intro id o hg
    rw [Heap.get_alloc] at hg
    split at hg
    · rename_i e; rw [e]; simp
    · have := h.lt id o hg; simp; omega
  · intro id o hg ho; rw [hn' id o hg] at ho; cases ho
  · intro id id' o o' hg _ ho; rw [hn' id o hg] at ho; cases ho
  · intro id cs hg i v hv
    rw [Heap.get_alloc] at hg
    split at hg
    · rename_i e
      injection hg with hg
      injection hg with hg
      subst hg
      refine ⟨a, by rw [e]; simp, ?_, hn'.owned _⟩
      rw [ren_ext hx v (hb v (List.mem_of_getElem? hv))]
      exact hc i v hv
    · obtain ⟨ad, e1, e2, e3⟩ := h.ro id cs hg i v hv
      have hlt := h.lt id _ hg
      refine ⟨ad, by rw [hx.addr id hlt]; exact e1, ?_, hn'.owned _⟩
      rw [ren_ext hx v ((h.bd id _ hg) v (List.mem_of_getElem? hv))]
      exact e2
  · intro id cs hg
    rw [Heap.get_alloc] at hg
    split at hg
    · rename_i e; exact ⟨a, by rw [e]; simp⟩
    · obtain ⟨ad, e1⟩ := h.roa id cs hg
      exact ⟨ad, by rw [hx.addr id (h.lt id _ hg)]; exact e1⟩
  · intro id es hg
    rw [Heap.get_alloc] at hg
    split at hg
    · injection hg with hg; cases hg
    · obtain ⟨b, e1, e2, e3⟩ := h.rom id es hg
      have hlt := h.lt id _ hg
      exact ⟨b, by rw [hx.addr id hlt]; exact e1, ORel.ext e2 hx (o := .map es) (show (AObj.rom es).bd H.next from h.bd id _ hg), hn'.owned _⟩
  · intro g cs hg k v hv
    obtain ⟨e1, e2, e3⟩ := h.gl g cs hg k v hv
    exact ⟨by rw [ren_ext hx v e2]; exact e1, AV.bd_mono (by simp) v e2, hn'.owned _⟩
  · intro id o hg
    rw [Heap.get_alloc] at hg
    split at hg
    · injection hg with hg
      subst hg
      exact fun v hv => AV.bd_mono (by simp) v (hb v hv)
    · exact AObj.bd_mono (by simp) o (h.bd id o hg)
/-- An empty slice somewhere. -/
theorem HRel.addEmp {ρ : Env} {H : Heap} {W : World} (h : HRel ρ H W) (hn : NoOwn H) (e : Addr × Nat) :
    HRel (ρ.set H.next none 0 e) { H with next := H.next + 1 } W ∧ NoOwn { H with next := H.next + 1 } :=
  ⟨(Sim.bump h e).rel, hn⟩

section
variable {T : Type} {enc : TypeId × Value → T} {W : World}
/-- What came of it. -/
structure Took (P : Program) (W : World) (ρ : Env) (H : Heap) (d : Nat) (t : TypeId) (cs : List Value) (ρ' : Env) (H' : Heap) (as : List AV) : Prop where
  ext : Ext H.next ρ ρ'
  grown : Grown H H'
  rel : HRel ρ' H' W
  noOwn : NoOwn H'
  eq : as.map (ren ρ') = cs
  bd : ∀ v ∈ as, v.bd H'.next
  den : Den P H' d t as
def TookL (P : Program) (ρ : Env) (H : Heap) (d : Nat) : List (TypeId × List Value) → List (List AV) → Prop
  | [], [] => True
  | (t, cs) :: l, as :: ass => as.map (ren ρ) = cs ∧ (∀ v ∈ as, v.bd H.next) ∧ Den P H d t as ∧ TookL P ρ H d l ass
  | _, _ => False
theorem TookL.mono {ρ ρ' : Env} {H H' : Heap} {d : Nat} (hx : Ext H.next ρ ρ') (g : Grown H H') : ∀ l ass, TookL P ρ H d l ass → TookL P ρ' H' d l ass
  | [], [], h => h
  | (t, cs) :: l, as :: ass, ⟨h1, h2, h3, h4⟩ => ⟨by rw [← h1]; exact List.map_congr_left fun v hv => ren_ext hx v (h2 v hv), fun v hv => AV.bd_mono g.next v (h2 v hv), h3.mono g, TookL.mono hx g l ass h4⟩
  | [], _ :: _, h => h.elim
  | _ :: _, [], h => h.elim
theorem adoptMany {d : Nat} (step : ∀ (t : TypeId) (cs : List Value) (ρ : Env) (H : Heap), plainOK P d t = true → (∃ fuel x, DataW.trod enc P W 0 (fun _ => true) true fuel t cs = some x) → HRel ρ H W → NoOwn H → ∃ ρ' H' as, Took P W ρ H d t cs ρ' H' as) :
    ∀ (l : List (TypeId × List Value)) (ρ : Env) (H : Heap), (∀ x ∈ l, plainOK P d x.1 = true ∧ ∃ fuel y, DataW.trod enc P W 0 (fun _ => true) true fuel x.1 x.2 = some y) → HRel ρ H W → NoOwn H →
      ∃ ρ' H' ass, Ext H.next ρ ρ' ∧ Grown H H' ∧ HRel ρ' H' W ∧ NoOwn H' ∧ TookL P ρ' H' d l ass
  | [], ρ, H, _, h, hn => ⟨ρ, H, [], Ext.refl _ _, Grown.refl _, h, hn, trivial⟩
  | (t, cs) :: l, ρ, H, hl, h, hn => by
    obtain ⟨p1, p2⟩ := hl (t, cs) (by simp)
    obtain ⟨ρ1, H1, as, k⟩ := step t cs ρ H p1 p2 h hn
    obtain ⟨ρ2, H2, ass, e1, e2, e3, e4, e5⟩ := adoptMany step l ρ1 H1 (fun x hx => hl x (by simp [hx])) k.rel k.noOwn
    refine ⟨ρ2, H2, as :: ass, k.ext.trans e1 k.grown.next, k.grown.trans e2, e3, e4, ?_⟩
    exact ⟨by rw [← k.eq]; exact List.map_congr_left fun v hv => ren_ext e1 v (k.bd v hv), fun v hv => AV.bd_mono e2.next v (k.bd v hv), k.den.mono e2, e5⟩
theorem TookL.facts {ρ : Env} {H : Heap} {d : Nat} : ∀ l ass, TookL P ρ H d l ass → (flat ass).map (ren ρ) = (l.map (·.2)).flatten ∧ (∀ v ∈ flat ass, v.bd H.next) ∧ ass.length = l.length
  | [], [], h => ⟨rfl, by simp [flat], rfl⟩
  | (t, cs) :: l, as :: ass, ⟨h1, h2, h3, h4⟩ => by
    obtain ⟨e1, e2, e3⟩ := TookL.facts l ass h4
    refine ⟨?_, ?_, by simp [e3]⟩
    · simp only [flat, List.flatten_cons, List.map_append, List.map_cons, h1] at e1 ⊢
      rw [← e1]
    · intro v hv
      simp only [flat, List.flatten_cons, List.mem_append] at hv
      rcases hv with hv | hv
      · exact h2 v hv
      · exact e2 v (by simpa [flat] using hv)
  | [], _ :: _, h => h.elim
  | _ :: _, [], h => h.elim
theorem TookL.all {ρ : Env} {H : Heap} {d : Nat} {e : TypeId} : ∀ (l : List (TypeId × List Value)) ass, (∀ x ∈ l, x.1 = e) → TookL P ρ H d l ass → ∀ c ∈ ass, Den P H d e c
  | [], [], _, h => by simp
  | (t, cs) :: l, as :: ass, hl, ⟨h1, h2, h3, h4⟩ => by
    intro c hc
    rcases List.mem_cons.1 hc with rfl | hc
    · rw [← hl (t, cs) (by simp)]; exact h3
    · exact TookL.all l ass (fun x hx => hl x (by simp [hx])) h4 c hc
  | [], _ :: _, _, h => h.elim
  | _ :: _, [], _, h => h.elim
/-- The pieces of a struct. -/
def pieces (P : Program) : List Field → List Value → List (TypeId × List Value)
  | [], _ => []
  | f :: fs, cs => (f.type, cs.take (P.cellsOf f.type)) :: pieces P fs (cs.drop (P.cellsOf f.type))
theorem pieces_flat : ∀ (fs : List Field) (cs : List Value), cs.length = sizeFs P fs → ((pieces P fs cs).map (·.2)).flatten = cs
  | [], cs, h => by
    have : cs = [] := List.length_eq_zero_iff.1 h
    rw [this]; rfl
  | f :: fs, cs, h => by
    simp only [sizeFs, List.map_cons, List.sum_cons] at h
    simp only [pieces, List.map_cons, List.flatten_cons]
    rw [pieces_flat fs _ (by rw [List.length_drop]; simp only [sizeFs]; omega), List.take_append_drop]
theorem pieces_mem : ∀ (fs : List Field) (off : Nat) (cs : List Value), contig P off fs = true → ∀ x ∈ pieces P fs (cs.drop off), ∃ f ∈ fs, x = (f.type, (cs.drop f.offset).take (P.cellsOf f.type))
  | [], off, cs, _, x, hx => by simp [pieces] at hx
  | f :: fs, off, cs, hc, x, hx => by
    simp only [contig, Bool.and_eq_true, beq_iff_eq] at hc
    simp only [pieces, List.mem_cons] at hx
    rcases hx with rfl | hx
    · exact ⟨f, by simp, by rw [hc.1]⟩
    · rw [List.drop_drop] at hx
      obtain ⟨f', h1, h2⟩ := pieces_mem fs _ cs hc.2 x hx
      exact ⟨f', by simp [h1], h2⟩
theorem TookL.fields {ρ : Env} {H : Heap} {d : Nat} : ∀ (fs : List Field) (cs : List Value) ass, (∀ f ∈ fs, plainOK P d f.type = true) → TookL P ρ H d (pieces P fs cs) ass → DenFs P (Den P H d) fs (flat ass)
  | [], cs, [], _, _ => rfl
  | f :: fs, cs, as :: ass, hp, ⟨h1, h2, h3, h4⟩ =>
    ⟨as, flat ass, by simp [flat], h3.len d _ _ (hp f (by simp)), h3, TookL.fields fs _ ass (fun g hg => hp g (by simp [hg])) h4⟩
  | [], _, _ :: _, _, h => h.elim
  | _ :: _, _, [], _, h => h.elim
theorem wf_int {k : IntKind} {n : Int} (h : (Lit.int k n).wf = true) : k.min ≤ n ∧ n ≤ k.max := by
  simpa [Lit.wf] using h
/-- What reads as data is taken over. -/
theorem adopt : ∀ (d : Nat) (t : TypeId) (cs : List Value) (ρ : Env) (H : Heap), plainOK P d t = true → (∃ fuel x, DataW.trod enc P W 0 (fun _ => true) true fuel t cs = some x) → HRel ρ H W → NoOwn H → ∃ ρ' H' as, Took P W ρ H d t cs ρ' H' as
  | 0, t, cs, ρ, H, hp, _, _, _ => by cases hp
  | d + 1, t, cs, ρ, H, hp, ⟨fuel, x, hx⟩, h, hn => by
    unfold plainOK at hp
    split at hp
    · rename_i hu
      obtain ⟨b, rfl, _⟩ := DataW.trod_bool hu hx
      exact ⟨ρ, H, [.bool b], Ext.refl _ _, Grown.refl _, h, hn, by simp [ren], by simp [AV.bd], by unfold Den; rw [hu]; exact ⟨b, rfl⟩⟩
    · rename_i k hu
      obtain ⟨z, rfl, _, hw⟩ := DataW.trod_int hu hx
      exact ⟨ρ, H, [.int k z], Ext.refl _ _, Grown.refl _, h, hn, by simp [ren], by simp [AV.bd], by unfold Den; rw [hu]; exact ⟨z, rfl, wf_int hw⟩⟩
    · rename_i hu
      obtain ⟨s, rfl, _, hs⟩ := DataW.trod_string hu hx
      exact ⟨ρ, H, [.str s], Ext.refl _ _, Grown.refl _, h, hn, by simp [ren], by simp [AV.bd], by unfold Den; rw [hu]; exact ⟨s, rfl, hs⟩⟩
    · rename_i e hu
      simp only [Bool.and_eq_true, beq_iff_eq, decide_eq_true_eq] at hp
      obtain ⟨hp1, hp2, hp3⟩ := hp
      rcases DataW.trod_slice hu hx with ⟨rfl, _⟩ | ⟨a, len, cap, elems, rest, n, _, rfl, _, _, hlc, hcm, hel, hi, _, _⟩
      · exact ⟨ρ, H, [.nils], Ext.refl _ _, Grown.refl _, h, hn, by simp [ren], by simp [AV.bd], by unfold Den; rw [hu]; exact .inl rfl⟩
      · cases len with
        | zero =>
          obtain ⟨r1, r2⟩ := h.addEmp hn (a, cap)
          refine ⟨_, _, [.emp H.next], Env.set_ext _ _ _ _ _, Grown.bump (Grown.refl _) 1, r1, r2, by simp [ren], by simp [AV.bd], by unfold Den; rw [hu]; exact .inr (.inl ⟨H.next, rfl, by simp⟩)⟩
        | succ len =>
          have hc : ∀ i, i < len + 1 → ∃ cs', W.cells? 0 (a.add (i * P.cellsOf e)) (P.cellsOf e) = some cs' ∧ ∃ y, DataW.trod enc P W 0 (fun _ => true) true n e cs' = some y := by
            intro i hi'
            have := hi i hi'
            rw [List.getElem?_eq_getElem (by omega), Option.bind_eq_some_iff] at this
            obtain ⟨cs', c1, c2⟩ := this
            exact ⟨cs', c1, _, c2⟩
          let el : Nat → List Value := fun i => (W.cells? 0 (a.add (i * P.cellsOf e)) (P.cellsOf e)).getD []
          have hel' : ∀ i, i < len + 1 → W.cells? 0 (a.add (i * P.cellsOf e)) (P.cellsOf e) = some (el i) := by
            intro i hi'
            obtain ⟨cs', c1, _⟩ := hc i hi'
            simp only [el, c1, Option.getD_some]
          obtain ⟨ρ1, H1, css, e1, e2, e3, e4, e5⟩ := adoptMany (fun t cs ρ H => adopt d t cs ρ H) ((List.range (len + 1)).map fun i => (e, el i)) ρ H (by
            intro x hx
            obtain ⟨i, hi', rfl⟩ := List.mem_map.1 hx
            have hi'' : i < len + 1 := by simpa using hi'
            obtain ⟨cs', c1, y, c2⟩ := hc i hi''
            refine ⟨hp2, n, y, ?_⟩
            simp only [el, c1, Option.getD_some]
            exact c2) h hn
          obtain ⟨f1, f2, f3⟩ := e5.facts
          have f4 := TookL.all (e := e) _ _ (by simp) e5
          have hcl : ∀ c ∈ css, c.length = P.cellsOf e := fun c hm => (f4 c hm).len d _ _ hp2
          have hlen : css.length = len + 1 := by rw [f3]; simp
          have hmap : ((List.range (len + 1)).map fun i => (e, el i)).map (·.2) = (List.range (len + 1)).map el := by rw [List.map_map]; rfl
          rw [hmap] at f1
          have hcell : ∀ j v, (flat css)[j]? = some v → W.cell? (a.add j) = some (ren ρ1 v) := by
            intro j v hj
            have hjl : j < (flat css).length := (List.getElem?_eq_some_iff.1 hj).1
            rw [flat_len hcl, hlen] at hjl
            have hq : j / P.cellsOf e < len + 1 := (Nat.div_lt_iff_lt_mul hp3).2 hjl
            obtain ⟨_, g1, g2⟩ := World.cells?_some (hel' _ hq)
            have hr : j % P.cellsOf e < P.cellsOf e := Nat.mod_lt _ hp3
            have hj2 : j / P.cellsOf e * P.cellsOf e + j % P.cellsOf e = j := Nat.div_add_mod' _ _
            have := g2 _ hr
            rw [add_add, hj2] at this
            rw [this]
            have h3 : ((flat css).map (ren ρ1))[j]? = some (ren ρ1 v) := by rw [List.getElem?_map, hj]; rfl
            rw [f1] at h3
            have h4 : ∀ (m : Nat) (k r : Nat), k < m → r < P.cellsOf e → (∀ i, i < m → (el i).length = P.cellsOf e) → ((List.range m).map el).flatten[k * P.cellsOf e + r]? = (el k)[r]? := by
              intro m
              induction m with
              | zero => intro k r hk; omega
              | succ m ih =>
                intro k r hk hr' hl
                rw [List.range_succ, List.map_append, List.flatten_append]
                have hfl : ((List.range m).map el).flatten.length = m * P.cellsOf e := by
                  clear ih hk
                  induction m with
                  | zero => simp
                  | succ m ihm =>
                    rw [List.range_succ, List.map_append, List.flatten_append, List.length_append, ihm fun i hi => hl i (by omega)]
                    simp [hl m (by omega), Nat.succ_mul]
                by_cases hkm : k < m
                · rw [List.getElem?_append_left (by rw [hfl]; have := Nat.mul_le_mul_right (P.cellsOf e) (show k + 1 ≤ m by omega); rw [Nat.succ_mul] at this; omega)]
                  exact ih k r hkm hr' fun i hi => hl i (by omega)
                · have : k = m := by omega
                  subst this
                  rw [List.getElem?_append_right (by rw [hfl]; omega), hfl]
                  simp
            rw [← hj2, h4 (len + 1) _ _ hq hr (fun i hi' => (World.cells?_some (hel' i hi')).2.1)] at h3
            exact h3
          obtain ⟨r1, r2⟩ := e3.addRo e4 (a := a) f2 hcell
          have hx1 : Ext H1.next ρ1 (ρ1.set H1.next (some a) 0 (a, 0)) := Env.set_ext _ _ _ _ _
          have hg1 : Grown H1 (H1.alloc (.ro (flat css))) := (Grown.refl _).alloc _
          refine ⟨_, _, [.sl H1.next 0 css.length (.exact cap)], e1.trans hx1 e2.next, e2.trans hg1, r1, r2, ?_, by simp [AV.bd], ?_⟩
          · simp only [List.map_cons, List.map_nil, ren, Env.set_addr, Option.map_some, hlen]
            rw [show a.add 0 = a by unfold Addr.add; simp]
          · unfold Den
            rw [hu]
            refine .inr (.inr ⟨H1.next, css, cap, rfl, ?_, by rw [hlen]; omega, by simp, get_alloc_eq rfl, fun c hm => ⟨hcl c hm, (f4 c hm).mono hg1⟩⟩)
            intro h0
            rw [h0] at hlen
            simp at hlen
    · rename_i fs hu
      simp only [Bool.and_eq_true, beq_iff_eq, List.all_eq_true] at hp
      obtain ⟨hp1, hp2, hp3⟩ := hp
      obtain ⟨xs, n, _, _, hl, hxl, hf⟩ := DataW.trod_struct hu hx
      obtain ⟨ρ1, H1, ass, e1, e2, e3, e4, e5⟩ := adoptMany (fun t cs ρ H => adopt d t cs ρ H) (pieces P fs.toList cs) ρ H (by
        intro x hx'
        obtain ⟨f, hfm, rfl⟩ := pieces_mem fs.toList 0 cs hp1 x (by simpa using hx')
        obtain ⟨i, hi, hfi⟩ := List.mem_iff_getElem.1 hfm
        have hi2 : fs[i]? = some f := by rw [Array.getElem?_eq_some_iff]; exact ⟨by simpa using hi, by simpa using hfi⟩
        have := hf i f hi2
        rw [List.getElem?_eq_getElem (by rw [hxl]; simpa using hi)] at this
        exact ⟨hp3 f hfm, n, _, this⟩) h hn
      obtain ⟨f1, f2, f3⟩ := e5.facts
      refine ⟨ρ1, H1, flat ass, e1, e2, e3, e4, ?_, f2, ?_⟩
      · rw [f1, pieces_flat _ _ (by rw [hl, hp2])]
      · unfold Den
        rw [hu]
        exact TookL.fields _ _ _ hp3 e5
    · cases hp
end
end Go.Proofs.YtlcfkeigipkhlaaGreatDoorAbs
