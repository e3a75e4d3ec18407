/- From a card's row to a contract: what is listed stands in the abstract heap; arguments stay; a call's end. -/
import Derived.Test.YtlcfkeigipkhlaaGreatDoorGlue
import Derived.Carry
import Derived.ChangeSame
import Derived.Lib.LaidU8
import Derived.OpenShut
import Derived.LaidMore
import Derived.Lay
import Derived.ProofKit
import Derived.SevenTiedAt
import Derived.Stop.Joined
set_option linter.unusedVariables false
set_option linter.unusedSimpArgs false
namespace Go.Proofs.YtlcfkeigipkhlaaGreatDoorAbs
open Go.ChangeShapes Go.WideShapes Go.RowKit
variable {P : Program}

/-- A listed array of whole numbers, cell by cell. -/
theorem varArr {W : World} {n : String} {k : IntKind} {zs : List Int} {g t e : Nat} (h : Lib.VarReads P W n (.agg (zs.map fun z => .lit (.int k z)))) (hn : P.globalNamed n = some g) (ht : (P.globals[g]?).map (·.type) = some t)
    (hu : P.underlying t = some (.array zs.length e)) (he : P.underlying e = some (.int k)) (hc : P.cellsOf e = 1) : ∀ i z, zs[i]? = some z → W.cell? ⟨g, i, none⟩ = some (.int k z) := by
  obtain ⟨g', t', cs, fuel, p, h1, h2, h3, h4⟩ := h
  obtain rfl := Option.some.inj (hn.symm.trans h1)
  obtain rfl := Option.some.inj (ht.symm.trans h2)
  intro i z hz
  have hi : i < zs.length := (List.getElem?_eq_some_iff.1 hz).1
  obtain ⟨fuel', d, q, e1, e2⟩ := Lib.array_elem hu h4 i hi
  rw [hc, Nat.mul_one] at e2
  obtain ⟨y, c1, c2, _⟩ := DataW.trod_int he e2
  rw [List.getElem?_map, hz] at e1
  simp only [Option.map_some, Option.some.injEq] at e1
  simp only [Prod.mk.injEq] at c2
  rw [← e1] at c2
  have : z = y := by
    have := c2.1
    simpa using this
  subst this
  rw [World.var?_cell h1 h3 i]
  have h0 : ((cs.toList.drop i).take 1)[0]? = some (.int k z) := by rw [c1]; rfl
  simpa using h0

def env0 : Env := ⟨fun _ => none, fun _ => 0, fun _ => (⟨0, 0, none⟩, 0)⟩
theorem glHeap_noOwn (gl : Nat → Option (List AV)) : NoOwn (glHeap gl) := fun id o h => by cases h
/-- At the beginning: package-level variables alone. -/
theorem HRel.start {W : World} {gl : Nat → Option (List AV)} (h : ∀ g cs, gl g = some cs → ∀ i v, cs[i]? = some v → W.cell? ⟨g, i, none⟩ = some (ren env0 v) ∧ v.bd 0) : HRel env0 (glHeap gl) W := by
  refine ⟨?_, ?_, ?_, ?_, ?_, ?_, ?_, ?_⟩
  · intro i x hx; cases hx
  · intro i x hx; cases hx
  · intro i j x y hx; cases hx
  · intro i cs hx; cases hx
  · intro i cs hx; cases hx
  · intro i es hx; cases hx
  · intro g cs hg i v hv
    obtain ⟨e1, e2⟩ := h g cs hg i v hv
    exact ⟨by rw [add_base]; exact e1, e2, (glHeap_noOwn gl).owned g⟩
  · intro i x hx; cases hx

section
variable {T : Type} {enc : TypeId × Value → T} {W W' : World}
/-- Arguments read as they did. -/
theorem argsStay (hl : laidOutB P = true) {sp : Nat → Bool} (hb : Below W.heap.size W W') : ∀ {ts : List TypeId} {vs : List Value} {ds : List (DataW T)} {ps : List MemPlace}, (ts.all fun t => P.readableRec t && decide (t < P.types.size)) = true →
    DataW.TrodAll enc P W 0 (fun _ => true) true ts vs ds ps → (∀ x ∈ ps, x.block < W.heap.size) → (∀ x ∈ ps, sp x.block = true) → DataW.TrodAll enc P W' 0 sp true ts vs ds ps
  | [], [], [], ps, _, h, _, _ => h
  | t :: ts, v :: vs, d :: ds, ps, ht, ⟨p, q, h1, h2, e⟩, hlt, hsp => by
    simp only [List.all_cons, Bool.and_eq_true, decide_eq_true_eq] at ht
    subst e
    exact ⟨p, q, WideElems.Trod_stays hl ht.1.1 ht.1.2 h1 (fun x hx => hb.same (hlt x (by simp [hx]))) (fun x hx => hsp x (by simp [hx])), argsStay hl hb ht.2 h2 (fun x hx => hlt x (by simp [hx])) (fun x hx => hsp x (by simp [hx])), rfl⟩
  | [], [], _ :: _, _, _, h, _, _ => h.elim
  | [], _ :: _, _, _, _, h, _, _ => h.elim
  | _ :: _, [], _, _, _, h, _, _ => h.elim
  | _ :: _, _ :: _, [], _, _, h, _, _ => h.elim
def items : List TypeId → List Value → List (TypeId × List Value)
  | t :: ts, v :: vs => (t, v.cells.toList) :: items ts vs
  | _, _ => []
theorem items_trod {d : Nat} : ∀ {ts : List TypeId} {vs : List Value} {ds : List (DataW T)} {ps : List MemPlace}, (ts.all fun t => plainOK P d t) = true → DataW.TrodAll enc P W 0 (fun _ => true) true ts vs ds ps →
    ∀ x ∈ items ts vs, plainOK P d x.1 = true ∧ ∃ fuel y, DataW.trod enc P W 0 (fun _ => true) true fuel x.1 x.2 = some y
  | [], [], [], ps, _, _, x, hx => by cases hx
  | t :: ts, v :: vs, d :: ds, ps, ht, ⟨p, q, ⟨fuel, h1⟩, h2, e⟩, x, hx => by
    simp only [List.all_cons, Bool.and_eq_true] at ht
    rcases List.mem_cons.1 hx with rfl | hx
    · exact ⟨ht.1, fuel, _, h1⟩
    · exact items_trod ht.2 h2 x hx
  | [], [], _ :: _, _, _, h, _, _ => h.elim
  | [], _ :: _, _, _, _, h, _, _ => h.elim
  | _ :: _, [], _, _, _, h, _, _ => h.elim
  | _ :: _, _ :: _, [], _, _, h, _, _ => h.elim
/-- All arguments are taken over. -/
theorem adoptArgs {d : Nat} {ρ : Env} {H : Heap} {ts : List TypeId} {vs : List Value} {ds : List (DataW T)} {ps : List MemPlace} (ht : (ts.all fun t => plainOK P d t) = true) (hA : DataW.TrodAll enc P W 0 (fun _ => true) true ts vs ds ps) (h : HRel ρ H W) (hn : NoOwn H) :
    ∃ ρ' H' ass, Ext H.next ρ ρ' ∧ Grown H H' ∧ HRel ρ' H' W ∧ NoOwn H' ∧ TookL P ρ' H' d (items ts vs) ass :=
  adoptMany (fun t cs ρ H => adopt d t cs ρ H) _ ρ H (items_trod ht hA) h hn
end

/-- What a contract says of the model. -/
theorem calls_of {L : Lib} {d n : Nat} (hok : CallOK P (callA P L n)) {f : FuncId} {fn : Func} {c : Code} {args : List AV} {ρ : Env} {H : Heap} {W : World} (hf : P.funcs[f]? = some fn) (hb : fn.body = some c) (hnum : (fn.name == "runtime.NumGoroutine") = false)
    (h : HRel ρ H W) (hn : NoOwn H) (hbd : ∀ v ∈ args, v.bd H.next) (hx : (callA P L n f args H).all fun r => r.1 = .bool true ∧ Grown H r.2) :
    Calls P f (args.map (ren ρ)).toArray W fun e w' => e = .returned (.bool true) ∧ Below W.heap.size W w' := by
  rcases hok f args ρ H W _ h hbd hx with ⟨_, c2⟩ | ⟨v, H', ρ', w', c1, _⟩
  · refine c2.mono fun e w' he => ?_
    obtain ⟨v, H', ρ', rfl, s, _, hv, _⟩ := he
    simp only at hv
    subst hv
    exact ⟨by simp [ren], ⟨s.os, s.tape, s.output, s.size, fun k hk => s.frame k hk (hn.owned k)⟩⟩
  · have hne : ((fn.name == "runtime.NumGoroutine") : Bool) = false := hnum
    simp only [beq_eq_false_iff_ne, ne_eq] at hne
    have : (callFunc f (args.map (ren ρ)).toArray).run P W = .ok (.enter f (args.map (ren ρ)).toArray) W := by simp [callFunc, hf, hb, hne, Sem.run]
    rw [this] at c1
    cases c1

/-! ### What cells of a type are -/
theorem DenFs.cell {D : TypeId → List AV → Prop} (hD : ∀ t a, D t a → a.all AV.cell = true) : ∀ fs xs, DenFs P D fs xs → xs.all AV.cell = true
  | [], xs, h => by rw [h]; rfl
  | f :: fs, xs, ⟨a, b, h1, h2, h3, h4⟩ => by rw [h1, List.all_append, hD _ _ h3, DenFs.cell hD fs b h4]; rfl
theorem Den.cell {H : Heap} : ∀ n t xs, Den P H n t xs → xs.all AV.cell = true
  | 0, _, _, h => h.elim
  | n + 1, t, xs, h => by
    unfold Den at h
    split at h
    · obtain ⟨b, rfl⟩ := h; rfl
    · obtain ⟨b, rfl, _⟩ := h; rfl
    · obtain ⟨b, rfl, _⟩ := h; rfl
    · exact DenFs.cell (Den.cell n) _ _ h
    · rcases h with rfl | ⟨id, rfl, _⟩ | ⟨id, css, cap, rfl, _⟩ <;> rfl
    · exact h.elim
theorem den_bool {H : Heap} {n : Nat} {t : TypeId} {xs : List AV} (hu : P.underlying t = some .bool) (h : Den P H (n + 1) t xs) : ∃ b, xs = [.bool b] := by
  unfold Den at h; rw [hu] at h; exact h
theorem den_int {H : Heap} {n : Nat} {t : TypeId} {xs : List AV} {k : IntKind} (hu : P.underlying t = some (.int k)) (h : Den P H (n + 1) t xs) : ∃ z, xs = [.int k z] ∧ k.min ≤ z ∧ z ≤ k.max := by
  unfold Den at h; rw [hu] at h; exact h
theorem den_string {H : Heap} {n : Nat} {t : TypeId} {xs : List AV} (hu : P.underlying t = some .string) (h : Den P H (n + 1) t xs) : ∃ s : ByteArray, xs = [.str s] ∧ s.size ≤ maxLen := by
  unfold Den at h; rw [hu] at h; exact h
theorem den_struct {H : Heap} {n : Nat} {t : TypeId} {xs : List AV} {fs : Array Field} (hu : P.underlying t = some (.struct fs)) (h : Den P H (n + 1) t xs) : DenFs P (Den P H n) fs.toList xs := by
  unfold Den at h; rw [hu] at h; exact h
theorem den_slice {H : Heap} {n : Nat} {t : TypeId} {xs : List AV} {e : TypeId} (hu : P.underlying t = some (.slice e)) (h : Den P H (n + 1) t xs) :
    ∃ a css, xs = [a] ∧ Rd H a (P.cellsOf e) css ∧ css.length ≤ maxLen ∧ ∀ c ∈ css, c.length = P.cellsOf e ∧ Den P H n e c := by
  unfold Den at h
  rw [hu] at h
  rcases h with rfl | ⟨id, rfl, hid⟩ | ⟨id, css, cap, rfl, h1, h2, h3, h4, h5⟩
  · exact ⟨.nils, [], rfl, .nil, by simp, by simp⟩
  · exact ⟨.emp id, [], rfl, .inr (.inl ⟨id, rfl, rfl⟩), by simp, by simp⟩
  · have hc : ∀ c ∈ css, c.length = P.cellsOf e ∧ c.all AV.cell = true := fun c hc => ⟨(h5 c hc).1, Den.cell _ _ _ (h5 c hc).2⟩
    refine ⟨_, css, rfl, .inr (.inr ⟨id, 0, .exact cap, flat css, rfl, h3, by simp only [Heap.cells, h4], by rw [flat_len fun c hm => (hc c hm).1]; omega, fun k hk => ?_⟩), h2, h5⟩
    rw [Nat.zero_add]
    exact flat_load hc hk
/-- One cell: the value itself. -/
theorem cells_slice {W : World} {r : Reach} {b : Nat} {t e : TypeId} {v : Value} (hu : P.underlying t = some (.slice e)) (h : Value.okWide P W r b t v) : v.cells.toList = [v] := by
  obtain ⟨a, l, c, rfl⟩ := okWide_slice hu h; rfl
theorem cells_int' {W : World} {r : Reach} {b : Nat} {t : TypeId} {k : IntKind} {v : Value} (hu : P.underlying t = some (.int k)) (h : Value.okWide P W r b t v) : v.cells.toList = [v] := by
  obtain ⟨a, rfl⟩ := okWide_int hu h; rfl
theorem cells_bool' {W : World} {r : Reach} {b : Nat} {t : TypeId} {v : Value} (hu : P.underlying t = some .bool) (h : Value.okWide P W r b t v) : v.cells.toList = [v] := by
  obtain ⟨a, rfl⟩ := okWide_bool hu h; rfl
end Go.Proofs.YtlcfkeigipkhlaaGreatDoorAbs
