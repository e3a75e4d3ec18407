/- The relation between the abstract machine's heap and the model's world; what a step keeps. -/
import Derived.Test.YtlcfkeigipkhlaaGreatDoorDefs
import Derived.Below
set_option linter.unusedVariables false
set_option linter.unusedSimpArgs false
namespace Go.Proofs.YtlcfkeigipkhlaaGreatDoorAbs

/-! ### The store of objects -/
theorem Trie.getF_eq : ∀ (d d' : Nat) (t : Trie) (n : Nat), n < d → n < d' → Trie.getF d t n = Trie.getF d' t n := by
  intro d
  induction d with
  | zero => intro d' t n h; omega
  | succ d ih =>
    intro d' t n h h'
    obtain ⟨d', rfl⟩ : ∃ k, d' = k + 1 := ⟨d' - 1, by omega⟩
    cases t with
    | leaf => rfl
    | node v l r =>
      simp only [Trie.getF]
      split
      · rfl
      · split
        · exact ih _ _ _ (by omega) (by omega)
        · exact ih _ _ _ (by omega) (by omega)
theorem Trie.setF_eq : ∀ (d d' : Nat) (t : Trie) (n : Nat) (o : Option AObj), n < d → n < d' → Trie.setF d t n o = Trie.setF d' t n o := by
  intro d
  induction d with
  | zero => intro d' t n o h; omega
  | succ d ih =>
    intro d' t n o h h'
    obtain ⟨d', rfl⟩ : ∃ k, d' = k + 1 := ⟨d' - 1, by omega⟩
    cases t with
    | leaf =>
      simp only [Trie.setF]
      split
      · rfl
      · split
        · rw [ih d' _ _ _ (by omega) (by omega)]
        · rw [ih d' _ _ _ (by omega) (by omega)]
    | node v l r =>
      simp only [Trie.setF]
      split
      · rfl
      · split
        · rw [ih d' _ _ _ (by omega) (by omega)]
        · rw [ih d' _ _ _ (by omega) (by omega)]
theorem Trie.getF_setF_same : ∀ (d : Nat) (t : Trie) (n : Nat) (o : Option AObj), n < d → Trie.getF d (Trie.setF d t n o) n = o := by
  intro d
  induction d with
  | zero => intro t n o h; omega
  | succ d ih =>
    intro t n o h
    cases t with
    | leaf =>
      by_cases h0 : n = 0
      · simp [Trie.setF, Trie.getF, h0]
      · by_cases h1 : n % 2 = 1
        · simp only [Trie.setF, if_neg h0, if_pos h1, Trie.getF]; exact ih _ _ _ (by omega)
        · simp only [Trie.setF, if_neg h0, if_neg h1, Trie.getF]; exact ih _ _ _ (by omega)
    | node v l r =>
      by_cases h0 : n = 0
      · simp [Trie.setF, Trie.getF, h0]
      · by_cases h1 : n % 2 = 1
        · simp only [Trie.setF, if_neg h0, if_pos h1, Trie.getF]; exact ih _ _ _ (by omega)
        · simp only [Trie.setF, if_neg h0, if_neg h1, Trie.getF]; exact ih _ _ _ (by omega)
theorem Trie.getF_leaf (d n : Nat) : Trie.getF d .leaf n = none := by cases d <;> rfl
theorem Trie.getF_setF_ne : ∀ (d : Nat) (t : Trie) (n m : Nat) (o : Option AObj), n < d → m < d → m ≠ n → Trie.getF d (Trie.setF d t n o) m = Trie.getF d t m := by
  intro d
  induction d with
  | zero => intro t n m o h; omega
  | succ d ih =>
    intro t n m o h h' hne
    cases t with
    | leaf =>
      by_cases h0 : n = 0
      · have hm : m ≠ 0 := by omega
        simp only [Trie.setF, if_pos h0, Trie.getF, if_neg hm]
        split <;> simp [Trie.getF_leaf]
      · by_cases h1 : n % 2 = 1
        · simp only [Trie.setF, if_neg h0, if_pos h1, Trie.getF]
          by_cases m0 : m = 0
          · simp [m0]
          · by_cases m1 : m % 2 = 1
            · simp only [if_neg m0, if_pos m1]; rw [ih _ _ _ _ (by omega) (by omega) (by omega), Trie.getF_leaf]
            · simp only [if_neg m0, if_neg m1]; rw [Trie.getF_leaf]
        · simp only [Trie.setF, if_neg h0, if_neg h1, Trie.getF]
          by_cases m0 : m = 0
          · simp [m0]
          · by_cases m1 : m % 2 = 1
            · simp only [if_neg m0, if_pos m1]; rw [Trie.getF_leaf]
            · simp only [if_neg m0, if_neg m1]; rw [ih _ _ _ _ (by omega) (by omega) (by omega), Trie.getF_leaf]
    | node v l r =>
      by_cases h0 : n = 0
      · have hm : m ≠ 0 := by omega
        simp only [Trie.setF, if_pos h0, Trie.getF, if_neg hm]
      · by_cases h1 : n % 2 = 1
        · simp only [Trie.setF, if_neg h0, if_pos h1, Trie.getF]
          by_cases m0 : m = 0
          · simp [m0]
          · by_cases m1 : m % 2 = 1
            · simp only [if_neg m0, if_pos m1]; exact ih _ _ _ _ (by omega) (by omega) (by omega)
            · simp only [if_neg m0, if_neg m1]
        · simp only [Trie.setF, if_neg h0, if_neg h1, Trie.getF]
          by_cases m0 : m = 0
          · simp [m0]
          · by_cases m1 : m % 2 = 1
            · simp only [if_neg m0, if_pos m1]
            · simp only [if_neg m0, if_neg m1]; exact ih _ _ _ _ (by omega) (by omega) (by omega)
theorem Trie.get_set (t : Trie) (n m : Nat) (o : Option AObj) : (t.set n o).get m = if m = n then o else t.get m := by
  unfold Trie.get Trie.set
  rw [Trie.getF_eq (m + 1) (m + n + 1) _ _ (by omega) (by omega), Trie.setF_eq (n + 1) (m + n + 1) _ _ _ (by omega) (by omega), Trie.getF_eq (m + 1) (m + n + 1) t _ (by omega) (by omega)]
  split
  · rename_i h; subst h; exact Trie.getF_setF_same _ _ _ _ (by omega)
  · rename_i h; exact Trie.getF_setF_ne _ _ _ _ _ (by omega) (by omega) h
theorem Heap.get_set (H : Heap) (n m : Nat) (o : Option AObj) : (H.set n o).get m = if m = n then o else H.get m := Trie.get_set _ _ _ _
theorem Heap.get_alloc (H : Heap) (m : Nat) (o : AObj) : (H.alloc o).get m = if m = H.next then some o else H.get m := Trie.get_set _ _ _ _
@[simp] theorem Heap.next_set (H : Heap) (n : Nat) (o : Option AObj) : (H.set n o).next = H.next := rfl
@[simp] theorem Heap.next_alloc (H : Heap) (o : AObj) : (H.alloc o).next = H.next + 1 := rfl
@[simp] theorem Heap.gl_set (H : Heap) (n : Nat) (o : Option AObj) : (H.set n o).gl = H.gl := rfl
@[simp] theorem Heap.gl_alloc (H : Heap) (o : AObj) : (H.alloc o).gl = H.gl := rfl
theorem Heap.get_bump (H : Heap) (k m : Nat) : ({ H with next := k } : Heap).get m = H.get m := rfl

/-! ### Results -/
theorem Res.all_mono {α : Type} {r : Res α} {Q Q' : α → Prop} (h : r.all Q) (hq : ∀ a, Q a → Q' a) : r.all Q' := by
  induction r with
  | fail => exact h
  | ret a => exact hq a h
  | any n k ih => exact fun i hi => ih i (h i hi)
  | need x y r ih => exact ⟨h.1, ih h.2⟩
  | every k ih => exact fun i => ih i (h i)
theorem Res.all_bind {α β : Type} {r : Res α} {f : α → Res β} {Q : β → Prop} : (r.bind f).all Q ↔ r.all fun a => (f a).all Q := by
  induction r with
  | fail => exact Iff.rfl
  | ret a => exact Iff.rfl
  | any n k ih => exact ⟨fun h i hi => (ih i).1 (h i hi), fun h i hi => (ih i).2 (h i hi)⟩
  | need x y r ih => exact ⟨fun h => ⟨h.1, ih.1 h.2⟩, fun h => ⟨h.1, ih.2 h.2⟩⟩
  | every k ih => exact ⟨fun h i => (ih i).1 (h i), fun h i => (ih i).2 (h i)⟩
theorem ofO_all {α β : Type} {o : Option α} {f : α → Res β} {Q : β → Prop} (h : (ofO o f).all Q) : ∃ a, o = some a ∧ (f a).all Q := by
  cases o with
  | none => exact h.elim
  | some a => exact ⟨a, rfl, h⟩

/-! ### Values -/
structure Env where
  addr : Nat → Option Addr
  rs : Nat → Nat
  emp : Nat → Addr × Nat

def ren (ρ : Env) : AV → Value
  | .junk => .tuple #[]
  | .bool b => .bool b
  | .int k n => .int k n
  | .str s => .string s
  | .nilp => .pointer none
  | .ptr id off => .pointer ((ρ.addr id).map (·.add off))
  | .gptr g off => .pointer (some ((⟨g, 0, none⟩ : Addr).add off))
  | .nils => .slice none 0 0
  | .sl id off len (.exact n) => .slice ((ρ.addr id).map (·.add off)) len n
  | .sl id off len (.tail z) => .slice ((ρ.addr id).map (·.add off)) len ((ρ.rs id - off) / z)
  | .emp id => .slice (some (ρ.emp id).1) 0 (ρ.emp id).2
  | .mp none => .map none
  | .mp (some id) => .map ((ρ.addr id).map (·.block))
  | .fn f first caps => .func (.func f) (first.map (ren ρ)).toArray (caps.map (ren ρ)).toArray
  | .nilf => .nilFunc
  | .iface t v => .iface t (ren ρ v)
  | .nili => .nilIface
  | .agg l => .agg (l.map (ren ρ)).toArray
  | .tup l => .tuple (l.map (ren ρ)).toArray

/-- All its numbers are below n. -/
def AV.bd (n : Nat) : AV → Prop
  | .ptr id _ | .sl id _ _ _ | .emp id => id < n
  | .mp (some id) => id < n
  | .fn _ first caps => (∀ v ∈ first, v.bd n) ∧ ∀ v ∈ caps, v.bd n
  | .iface _ v => v.bd n
  | .agg l | .tup l => ∀ v ∈ l, v.bd n
  | _ => True

/-- The same for numbers below n. -/
structure Ext (n : Nat) (ρ ρ' : Env) : Prop where
  addr : ∀ id, id < n → ρ'.addr id = ρ.addr id
  rs : ∀ id, id < n → ρ'.rs id = ρ.rs id
  emp : ∀ id, id < n → ρ'.emp id = ρ.emp id
theorem Ext.refl (n : Nat) (ρ : Env) : Ext n ρ ρ := ⟨fun _ _ => rfl, fun _ _ => rfl, fun _ _ => rfl⟩
theorem Ext.trans {n m : Nat} {ρ ρ' ρ'' : Env} (h : Ext n ρ ρ') (k : Ext m ρ' ρ'') (hm : n ≤ m) : Ext n ρ ρ'' :=
  ⟨fun i hi => (k.addr i (by omega)).trans (h.addr i hi), fun i hi => (k.rs i (by omega)).trans (h.rs i hi), fun i hi => (k.emp i (by omega)).trans (h.emp i hi)⟩

theorem map_congr_mem {α β : Type} {l : List α} {f g : α → β} (h : ∀ a ∈ l, f a = g a) : l.map f = l.map g := List.map_congr_left h

theorem ren_ext {n : Nat} {ρ ρ' : Env} (h : Ext n ρ ρ') : ∀ (v : AV), v.bd n → ren ρ' v = ren ρ v
  | .junk, _ | .bool _, _ | .int _ _, _ | .str _, _ | .nilp, _ | .gptr _ _, _ | .nils, _ | .mp none, _ | .nilf, _ | .nili, _ => by simp [ren]
  | .ptr id off, hb => by simp only [AV.bd] at hb; simp [ren, h.addr id hb]
  | .sl id off len (.exact c), hb => by simp only [AV.bd] at hb; simp [ren, h.addr id hb]
  | .sl id off len (.tail z), hb => by simp only [AV.bd] at hb; simp [ren, h.addr id hb, h.rs id hb]
  | .emp id, hb => by simp only [AV.bd] at hb; simp [ren, h.emp id hb]
  | .mp (some id), hb => by simp only [AV.bd] at hb; simp [ren, h.addr id hb]
  | .fn f a c, hb => by
    simp only [AV.bd] at hb
    have h1 := map_congr_mem (l := a) (f := ren ρ') (g := ren ρ) fun v hv => ren_ext h v (hb.1 v hv)
    have h2 := map_congr_mem (l := c) (f := ren ρ') (g := ren ρ) fun v hv => ren_ext h v (hb.2 v hv)
    simp only [ren]
    rw [h1, h2]
  | .iface t v, hb => by
    simp only [AV.bd] at hb
    simp only [ren]
    rw [ren_ext h v hb]
  | .agg l, hb => by
    simp only [AV.bd] at hb
    have h1 := map_congr_mem (l := l) (f := ren ρ') (g := ren ρ) fun v hv => ren_ext h v (hb v hv)
    simp only [ren]
    rw [h1]
  | .tup l, hb => by
    simp only [AV.bd] at hb
    have h1 := map_congr_mem (l := l) (f := ren ρ') (g := ren ρ) fun v hv => ren_ext h v (hb v hv)
    simp only [ren]
    rw [h1]

theorem AV.bd_mono {n m : Nat} (h : n ≤ m) : ∀ (v : AV), v.bd n → v.bd m
  | .junk, _ | .bool _, _ | .int _ _, _ | .str _, _ | .nilp, _ | .gptr _ _, _ | .nils, _ | .mp none, _ | .nilf, _ | .nili, _ => by simp [AV.bd]
  | .ptr id off, hb => by simp only [AV.bd] at *; omega
  | .sl id off len c, hb => by simp only [AV.bd] at *; omega
  | .emp id, hb => by simp only [AV.bd] at *; omega
  | .mp (some id), hb => by simp only [AV.bd] at *; omega
  | .fn f a c, hb => by simp only [AV.bd] at *; exact ⟨fun v hv => AV.bd_mono h v (hb.1 v hv), fun v hv => AV.bd_mono h v (hb.2 v hv)⟩
  | .iface t v, hb => by simp only [AV.bd] at *; exact AV.bd_mono h v hb
  | .agg l, hb => by simp only [AV.bd] at *; exact fun v hv => AV.bd_mono h v (hb v hv)
  | .tup l, hb => by simp only [AV.bd] at *; exact fun v hv => AV.bd_mono h v (hb v hv)

theorem ren_cell {ρ : Env} {v : AV} (h : v.cell = true) : (ren ρ v).oneCell' = true := by
  cases v with
  | junk => simp [AV.cell] at h
  | agg l => simp [AV.cell] at h
  | tup l => simp [AV.cell] at h
  | sl id off len c => cases c <;> simp [ren, Value.oneCell']
  | mp r => cases r <;> simp [ren, Value.oneCell']
  | _ => simp [ren, Value.oneCell']

def AObj.bd (n : Nat) : AObj → Prop
  | .row cs _ _ | .ro cs => ∀ v ∈ cs, v.bd n
  | .map es | .rom es => ∀ p ∈ es, p.1.bd n ∧ p.2.bd n
  | .sit _ _ => True
  | .mit none _ _ _ => True
  | .mit (some m) _ _ _ => m < n
theorem AObj.bd_mono {n m : Nat} (h : n ≤ m) (o : AObj) (hb : o.bd n) : o.bd m := by
  cases o with
  | row cs f e => exact fun v hv => AV.bd_mono h v (hb v hv)
  | ro cs => exact fun v hv => AV.bd_mono h v (hb v hv)
  | map es => exact fun p hp => ⟨AV.bd_mono h _ (hb p hp).1, AV.bd_mono h _ (hb p hp).2⟩
  | rom es => exact fun p hp => ⟨AV.bd_mono h _ (hb p hp).1, AV.bd_mono h _ (hb p hp).2⟩
  | sit s p => trivial
  | mit m' n' l a => cases m' with
    | none => trivial
    | some m' => simp only [AObj.bd] at *; omega

/-! ### Objects and blocks -/
/-- What block b holds, of an own object; z: how many cells a row has. -/
def ORel (ρ : Env) (w : World) (b z : Nat) : AObj → Prop
  | .row cs full e => ∃ (arr : Array Value) (fr : Nat × Nat), w.heap[b]? = some (.cells arr e fr) ∧ arr.size = z ∧ (fr.1 = fr.2 ∨ arr.size ≤ fr.1) ∧ (full ≠ .no → arr.size = cs.length) ∧ (full = .new → fr.1 = fr.2) ∧ cs.length ≤ arr.size ∧ ∀ (i : Nat) (v : AV), cs[i]? = some v → v = .junk ∨ arr[i]? = some (ren ρ v)
  | .ro _ => True
  | .rom _ => True
  | .map es => ∃ ents : Array MapEntry, w.heap[b]? = some (.map ents ents.size) ∧ ents.toList.map (fun e => (e.key, e.val)) = es.map (fun p => (ren ρ p.1, ren ρ p.2)) ∧ ∀ (i : Nat) (e : MapEntry), ents[i]? = some e → e.born = i
  | .sit s pos => w.heap[b]? = some (.stringIter s pos)
  | .mit none _ _ _ => ∃ x y u, w.heap[b]? = some (.mapIter none x y u)
  | .mit (some m) n left at_ => ∃ (mb : Nat) (seen : Array Nat), ρ.addr m = some ⟨mb, 0, none⟩ ∧ w.heap[b]? = some (.mapIter (some mb) n seen n) ∧ left = (List.range n).filter (fun j => !seen.contains j) ∧ (at_ < n → seen.back? = some at_)

theorem unfrozen {fr : Nat × Nat} {n : Nat} (h : fr.1 = fr.2 ∨ n ≤ fr.1) : ∀ j, j < n → ¬(fr.1 ≤ j ∧ j < fr.2) := by
  intro j hj
  omega

/-- Block b bears an own object. -/
def Owned (ρ : Env) (H : Heap) (b : Nat) : Prop := ∃ id o, H.get id = some o ∧ o.own = true ∧ ρ.addr id = some ⟨b, 0, none⟩

structure HRel (ρ : Env) (H : Heap) (w : World) : Prop where
  lt : ∀ id o, H.get id = some o → id < H.next
  own : ∀ id o, H.get id = some o → o.own = true → ∃ b, ρ.addr id = some ⟨b, 0, none⟩ ∧ b < w.heap.size ∧ ORel ρ w b (ρ.rs id) o
  inj : ∀ id id' o o', H.get id = some o → H.get id' = some o' → o.own = true → o'.own = true → ρ.addr id = ρ.addr id' → id = id'
  ro : ∀ id cs, H.get id = some (.ro cs) → ∀ i v, cs[i]? = some v → ∃ ad, ρ.addr id = some ad ∧ w.cell? (ad.add i) = some (ren ρ v) ∧ ¬Owned ρ H ad.block
  roa : ∀ id cs, H.get id = some (.ro cs) → ∃ ad, ρ.addr id = some ad
  rom : ∀ id es, H.get id = some (.rom es) → ∃ b, ρ.addr id = some ⟨b, 0, none⟩ ∧ ORel ρ w b 0 (.map es) ∧ ¬Owned ρ H b
  gl : ∀ g cs, H.gl g = some cs → ∀ i v, cs[i]? = some v → w.cell? ((⟨g, 0, none⟩ : Addr).add i) = some (ren ρ v) ∧ v.bd H.next ∧ ¬Owned ρ H g
  bd : ∀ id o, H.get id = some o → o.bd H.next

/-- What a step keeps. -/
structure Sim (ρ : Env) (H : Heap) (w : World) (ρ' : Env) (H' : Heap) (w' : World) : Prop where
  rel : HRel ρ' H' w'
  ext : Ext H.next ρ ρ'
  next : H.next ≤ H'.next
  os : w'.os = w.os
  tape : w'.tape = w.tape
  output : w'.output = w.output
  size : w.heap.size ≤ w'.heap.size
  frame : ∀ b, b < w.heap.size → ¬Owned ρ H b → w'.heap[b]? = w.heap[b]?
  old : ∀ b, b < w.heap.size → Owned ρ' H' b → Owned ρ H b
  gl : H'.gl = H.gl
  keep : ∀ id o, H.get id = some o → o.own = false → H'.get id = some o
  made : ∀ id o, H'.get id = some o → o.own = false → H.get id = some o

theorem Sim.refl {ρ : Env} {H : Heap} {w : World} (h : HRel ρ H w) : Sim ρ H w ρ H w :=
  ⟨h, Ext.refl _ _, Nat.le_refl _, rfl, rfl, rfl, Nat.le_refl _, fun _ _ _ => rfl, fun _ _ h => h, rfl, fun _ _ h _ => h, fun _ _ h _ => h⟩
theorem Sim.trans {ρ ρ' ρ'' : Env} {H H' H'' : Heap} {w w' w'' : World} (h : Sim ρ H w ρ' H' w') (k : Sim ρ' H' w' ρ'' H'' w'') : Sim ρ H w ρ'' H'' w'' where
  rel := k.rel
  ext := h.ext.trans k.ext h.next
  next := Nat.le_trans h.next k.next
  os := k.os.trans h.os
  tape := k.tape.trans h.tape
  output := k.output.trans h.output
  size := Nat.le_trans h.size k.size
  frame := fun b hb hn => (k.frame b (Nat.lt_of_lt_of_le hb h.size) (fun ho => hn (h.old b hb ho))).trans (h.frame b hb hn)
  old := fun b hb ho => h.old b hb (k.old b (Nat.lt_of_lt_of_le hb h.size) ho)
  gl := k.gl.trans h.gl
  keep := fun id o hg ho => k.keep id o (h.keep id o hg ho) ho
  made := fun id o hg ho => h.made id o (k.made id o hg ho) ho

/-- The world matters by its blocks alone. -/
theorem cell?_congr {w w' : World} {a : Addr} (h : w'.heap[a.block]? = w.heap[a.block]?) : w'.cell? a = w.cell? a := by
  unfold World.cell?; rw [h]
theorem add_block (a : Addr) (n : Nat) : (a.add n).block = a.block := by unfold Addr.add; split <;> rfl
theorem add_add (a : Addr) (i j : Nat) : (a.add i).add j = a.add (i + j) := by
  unfold Addr.add
  by_cases h1 : i = 0 <;> by_cases h2 : j = 0 <;> simp [h1, h2, Nat.add_assoc]
theorem add_base (b n : Nat) : (⟨b, 0, none⟩ : Addr).add n = ⟨b, n, none⟩ := by unfold Addr.add; split <;> simp_all
theorem cell?_lt {w : World} {a : Addr} {v : Value} (h : w.cell? a = some v) : a.block < w.heap.size := World.block_lt_of_cell? w a h

theorem ORel.congr {ρ : Env} {w w' : World} {b z : Nat} {o : AObj} (h : ORel ρ w b z o) (hb : w'.heap[b]? = w.heap[b]?) : ORel ρ w' b z o := by
  cases o with
  | mit m n l a => cases m <;> (simp only [ORel] at *; rw [hb]; exact h)
  | ro cs => trivial
  | rom es => trivial
  | _ => simp only [ORel] at *; rw [hb]; exact h
theorem ORel.ext {ρ ρ' : Env} {w : World} {b z n : Nat} {o : AObj} (h : ORel ρ w b z o) (he : Ext n ρ ρ') (hb : o.bd n) : ORel ρ' w b z o := by
  cases o with
  | row cs f e =>
    obtain ⟨arr, fr, h1, h2, h3, h4, h4', h5, h6⟩ := h
    exact ⟨arr, fr, h1, h2, h3, h4, h4', h5, fun i v hv => by rw [ren_ext he v (hb v (List.mem_of_getElem? hv))]; exact h6 i v hv⟩
  | ro cs => trivial
  | rom es => trivial
  | map es =>
    obtain ⟨ents, h1, h2, h3⟩ := h
    refine ⟨ents, h1, ?_, h3⟩
    rw [h2]
    exact map_congr_mem fun p hp => by rw [ren_ext he _ (hb p hp).1, ren_ext he _ (hb p hp).2]
  | sit s p => exact h
  | mit m n' l a => cases m with
    | none => exact h
    | some m =>
      obtain ⟨mb, seen, h1, h2⟩ := h
      exact ⟨mb, seen, by rw [he.addr m hb]; exact h1, h2⟩

theorem HRel.not_owned_of_le {ρ : Env} {H : Heap} {w : World} (h : HRel ρ H w) {b : Nat} (hb : w.heap.size ≤ b) : ¬Owned ρ H b := by
  rintro ⟨id, o, ho, hw, ha⟩
  obtain ⟨b', ha', hb', _⟩ := h.own id o ho hw
  rw [ha] at ha'
  injection ha' with ha'
  injection ha' with ha'
  omega

theorem HRel.world {ρ : Env} {H : Heap} {w w' : World} (h : HRel ρ H w) (he : w'.heap = w.heap) : HRel ρ H w' := by
  have hc : ∀ a, w'.cell? a = w.cell? a := fun a => cell?_congr (by rw [he])
  refine ⟨h.lt, fun id o ho hw => ?_, h.inj, fun id cs ho i v hv => ?_, h.roa, fun id es ho => ?_, fun g cs hg i v hv => ?_, h.bd⟩
  · obtain ⟨b, h1, h2, h3⟩ := h.own id o ho hw
    exact ⟨b, h1, by rw [he]; exact h2, h3.congr (by rw [he])⟩
  · obtain ⟨ad, h1, h2, h3⟩ := h.ro id cs ho i v hv
    exact ⟨ad, h1, by rw [hc]; exact h2, h3⟩
  · obtain ⟨b, h1, h2, h3⟩ := h.rom id es ho
    exact ⟨b, h1, h2.congr (by rw [he]), h3⟩
  · obtain ⟨h1, h2⟩ := h.gl g cs hg i v hv
    exact ⟨by rw [hc]; exact h1, h2⟩

/-- A draw. -/
theorem Sim.drawn {ρ : Env} {H : Heap} {w w' : World} (h : HRel ρ H w) (h1 : w'.heap = w.heap) (h2 : w'.os = w.os) (h3 : w'.tape = w.tape) (h4 : w'.output = w.output) : Sim ρ H w ρ H w' :=
  ⟨h.world h1, Ext.refl _ _, Nat.le_refl _, h2, h3, h4, by rw [h1]; exact Nat.le_refl _, fun _ _ _ => by rw [h1], fun _ _ h => h, rfl, fun _ _ h _ => h, fun _ _ h _ => h⟩

/-- The environment with one number more. -/
def Env.set (ρ : Env) (id : Nat) (a : Option Addr) (z : Nat) (e : Addr × Nat) : Env :=
  ⟨fun i => if i = id then a else ρ.addr i, fun i => if i = id then z else ρ.rs i, fun i => if i = id then e else ρ.emp i⟩
theorem Env.set_ext (ρ : Env) (id : Nat) (a : Option Addr) (z : Nat) (e : Addr × Nat) : Ext id ρ (ρ.set id a z e) :=
  ⟨fun i hi => if_neg (by omega), fun i hi => if_neg (by omega), fun i hi => if_neg (by omega)⟩
@[simp] theorem Env.set_addr (ρ : Env) (id : Nat) (a : Option Addr) (z : Nat) (e : Addr × Nat) : (ρ.set id a z e).addr id = a := if_pos rfl
@[simp] theorem Env.set_rs (ρ : Env) (id : Nat) (a : Option Addr) (z : Nat) (e : Addr × Nat) : (ρ.set id a z e).rs id = z := if_pos rfl
@[simp] theorem Env.set_emp (ρ : Env) (id : Nat) (a : Option Addr) (z : Nat) (e : Addr × Nat) : (ρ.set id a z e).emp id = e := if_pos rfl

/-- Where one own object is written, in its block. -/
theorem Sim.write {ρ : Env} {H : Heap} {w w' : World} {id b : Nat} {o o' : AObj} (h : HRel ρ H w) (hg : H.get id = some o) (ho : o.own = true) (ha : ρ.addr id = some ⟨b, 0, none⟩)
    (ho' : o'.own = true) (hb' : o'.bd H.next) (hr : ORel ρ w' b (ρ.rs id) o') (hs : w'.heap.size = w.heap.size) (hf : ∀ k, k ≠ b → w'.heap[k]? = w.heap[k]?)
    (h2 : w'.os = w.os) (h3 : w'.tape = w.tape) (h4 : w'.output = w.output) : Sim ρ H w ρ (H.set id (some o')) w' := by
  have hown : ∀ k, Owned ρ (H.set id (some o')) k ↔ Owned ρ H k := by
    intro k
    constructor
    · rintro ⟨i, x, hx, hx1, hx2⟩
      rw [Heap.get_set] at hx
      split at hx
      · rename_i hi; subst hi; exact ⟨i, o, hg, ho, hx2⟩
      · exact ⟨i, x, hx, hx1, hx2⟩
    · rintro ⟨i, x, hx, hx1, hx2⟩
      by_cases hi : i = id
      · subst hi; exact ⟨i, o', by rw [Heap.get_set, if_pos rfl], ho', hx2⟩
      · exact ⟨i, x, by rw [Heap.get_set, if_neg hi]; exact hx, hx1, hx2⟩
  have hid : Owned ρ H b := ⟨id, o, hg, ho, ha⟩
  have hkeep : ∀ i x, H.get i = some x → x.own = false → (H.set id (some o')).get i = some x := by
    intro i x hx hxo
    rw [Heap.get_set]
    split
    · rename_i hi; subst hi; rw [hg] at hx; injection hx with hx; subst hx; rw [ho] at hxo; cases hxo
    · exact hx
  have hmade : ∀ i x, (H.set id (some o')).get i = some x → x.own = false → H.get i = some x := by
    intro i x hx hxo
    rw [Heap.get_set] at hx
    split at hx
    · injection hx with hx; subst hx; rw [ho'] at hxo; cases hxo
    · exact hx
  refine ⟨⟨?_, ?_, ?_, ?_, ?_, ?_, ?_, ?_⟩, Ext.refl _ _, Nat.le_refl _, h2, h3, h4, by omega, ?_, fun k _ hk => (hown k).1 hk, rfl, hkeep, hmade⟩
  · intro i x hx
    rw [Heap.get_set] at hx
    split at hx
    · rename_i hi; subst hi; exact h.lt i o hg
    · exact h.lt i x hx
  · intro i x hx hxo
    rw [Heap.get_set] at hx
    split at hx
    · rename_i hi; subst hi
      injection hx with hx
      subst hx
      obtain ⟨b2, e1, e2, _⟩ := h.own i o hg ho
      rw [ha] at e1
      injection e1 with e1
      injection e1 with e1
      subst e1
      exact ⟨b, ha, by omega, hr⟩
    · rename_i hi
      obtain ⟨b2, e1, e2, e3⟩ := h.own i x hx hxo
      refine ⟨b2, e1, by omega, e3.congr (hf b2 ?_)⟩
      intro e
      subst e
      exact hi (h.inj i id x o hx hg hxo ho (by rw [e1, ha]))
  · intro i j x y hx hy hxo hyo he
    rw [Heap.get_set] at hx hy
    have key : ∀ i x, (if i = id then some o' else H.get i) = some x → x.own = true → ∃ z, H.get i = some z ∧ z.own = true := by
      intro i x hx hxo
      split at hx
      · rename_i hi; subst hi; exact ⟨o, hg, ho⟩
      · exact ⟨x, hx, hxo⟩
    obtain ⟨z, hz, hzo⟩ := key i x hx hxo
    obtain ⟨z', hz', hzo'⟩ := key j y hy hyo
    exact h.inj i j z z' hz hz' hzo hzo' he
  · intro i cs hx k v hv
    rw [Heap.get_set] at hx
    split at hx
    · injection hx with hx; subst hx; simp [AObj.own] at ho'
    · obtain ⟨ad, e1, e2, e3⟩ := h.ro i cs hx k v hv
      refine ⟨ad, e1, ?_, fun ho => e3 ((hown _).1 ho)⟩
      rw [cell?_congr (hf _ ?_)]
      · exact e2
      · rw [add_block]; intro e; rw [e] at e3; exact e3 hid
  · intro i cs hx
    exact h.roa i cs (hmade i _ hx rfl)
  · intro i es hx
    rw [Heap.get_set] at hx
    split at hx
    · injection hx with hx; subst hx; simp [AObj.own] at ho'
    · obtain ⟨b2, e1, e2, e3⟩ := h.rom i es hx
      exact ⟨b2, e1, e2.congr (hf b2 fun e => e3 (by rw [e]; exact hid)), fun ho => e3 ((hown _).1 ho)⟩
  · intro g cs hx k v hv
    obtain ⟨e1, e2, e3⟩ := h.gl g cs hx k v hv
    refine ⟨?_, e2, fun ho => e3 ((hown _).1 ho)⟩
    rw [cell?_congr (hf _ ?_)]
    · exact e1
    · rw [add_block]; intro e; simp only at e; rw [e] at e3; exact e3 hid
  · intro i x hx
    rw [Heap.get_set] at hx
    split at hx
    · injection hx with hx; subst hx; exact hb'
    · exact h.bd i x hx
  · intro k hk hn
    exact hf k fun e => hn (by rw [e]; exact hid)

/-- Where a new block bears a new own object. -/
theorem Sim.new {ρ : Env} {H : Heap} {w w' : World} {o : AObj} (z : Nat) (h : HRel ρ H w) (ho : o.own = true) (hb : o.bd H.next)
    (hs : w'.heap.size = w.heap.size + 1) (hf : ∀ k, k < w.heap.size → w'.heap[k]? = w.heap[k]?)
    (hr : ORel (ρ.set H.next (some ⟨w.heap.size, 0, none⟩) z (⟨0, 0, none⟩, 0)) w' w.heap.size z o)
    (h2 : w'.os = w.os) (h3 : w'.tape = w.tape) (h4 : w'.output = w.output) :
    Sim ρ H w (ρ.set H.next (some ⟨w.heap.size, 0, none⟩) z (⟨0, 0, none⟩, 0)) (H.alloc o) w' := by
  generalize hρ : ρ.set H.next (some ⟨w.heap.size, 0, none⟩) z (⟨0, 0, none⟩, 0) = ρ' at *
  have hext : Ext H.next ρ ρ' := by rw [← hρ]; exact Env.set_ext _ _ _ _ _
  have hnew : ρ'.addr H.next = some ⟨w.heap.size, 0, none⟩ := by rw [← hρ]; simp
  have hrs : ρ'.rs H.next = z := by rw [← hρ]; simp
  have hown : ∀ k, k < w.heap.size → Owned ρ' (H.alloc o) k → Owned ρ H k := by
    rintro k hk ⟨i, x, hx, hx1, hx2⟩
    rw [Heap.get_alloc] at hx
    split at hx
    · rename_i hi; subst hi
      rw [hnew] at hx2
      injection hx2 with hx2
      injection hx2 with hx2
      omega
    · exact ⟨i, x, hx, hx1, by rw [← hext.addr i (h.lt i x hx)]; exact hx2⟩
  have hkeep : ∀ i x, H.get i = some x → x.own = false → (H.alloc o).get i = some x := by
    intro i x hx hxo
    have := h.lt i x hx
    rw [Heap.get_alloc, if_neg (by omega)]
    exact hx
  have hmade : ∀ i x, (H.alloc o).get i = some x → x.own = false → H.get i = some x := by
    intro i x hx hxo
    rw [Heap.get_alloc] at hx
    split at hx
    · injection hx with hx; subst hx; rw [ho] at hxo; cases hxo
    · exact hx
  refine ⟨⟨?_, ?_, ?_, ?_, ?_, ?_, ?_, ?_⟩, hext, by simp, h2, h3, h4, by omega, fun k hk _ => hf k hk, hown, rfl, hkeep, hmade⟩
  · intro i x hx
    rw [Heap.get_alloc] at hx
    simp only [Heap.next_alloc]
    split at hx
    · omega
    · have := h.lt i x hx; omega
  · intro i x hx hxo
    rw [Heap.get_alloc] at hx
    split at hx
    · rename_i hi; subst hi
      injection hx with hx
      subst hx
      exact ⟨_, hnew, by omega, by rw [hrs]; exact hr⟩
    · obtain ⟨b, e1, e2, e3⟩ := h.own i x hx hxo
      have hi := h.lt i x hx
      refine ⟨b, by rw [hext.addr i hi]; exact e1, by omega, ?_⟩
      rw [hext.rs i hi]
      exact (e3.congr (hf b e2)).ext hext (h.bd i x hx)
  · intro i j x y hx hy hxo hyo he
    rw [Heap.get_alloc] at hx hy
    have side : ∀ i x, H.get i = some x → x.own = true → ρ'.addr i ≠ some ⟨w.heap.size, 0, none⟩ := by
      intro i x hx hxo e
      obtain ⟨b, e1, e2, _⟩ := h.own i x hx hxo
      rw [hext.addr i (h.lt i x hx), e1] at e
      injection e with e
      injection e with e
      omega
    split at hx
    · rename_i hi; subst hi
      split at hy
      · rename_i hj; exact hj.symm
      · exact absurd (he ▸ hnew) (side j y hy hyo)
    · split at hy
      · rename_i hj; subst hj; exact absurd (he.trans hnew) (side i x hx hxo)
      · rw [hext.addr i (h.lt i x hx), hext.addr j (h.lt j y hy)] at he
        exact h.inj i j x y hx hy hxo hyo he
  · intro i cs hx k v hv
    rw [Heap.get_alloc] at hx
    split at hx
    · injection hx with hx; subst hx; simp [AObj.own] at ho
    · obtain ⟨ad, e1, e2, e3⟩ := h.ro i cs hx k v hv
      have hlt := cell?_lt e2
      rw [add_block] at hlt
      refine ⟨ad, by rw [hext.addr i (h.lt i _ hx)]; exact e1, ?_, fun ho => e3 (hown _ hlt ho)⟩
      rw [cell?_congr (hf _ (by rw [add_block]; exact hlt)), e2, ren_ext hext v (h.bd i _ hx v (List.mem_of_getElem? hv))]
  · intro i cs hx
    have hx := hmade i _ hx rfl
    obtain ⟨ad, e⟩ := h.roa i cs hx
    exact ⟨ad, by rw [hext.addr i (h.lt i _ hx)]; exact e⟩
  · intro i es hx
    rw [Heap.get_alloc] at hx
    split at hx
    · injection hx with hx; subst hx; simp [AObj.own] at ho
    · obtain ⟨b, e1, e2, e3⟩ := h.rom i es hx
      have hlt : b < w.heap.size := by
        obtain ⟨ents, g1, _⟩ := e2
        exact (Array.getElem?_eq_some_iff.1 g1).1
      exact ⟨b, by rw [hext.addr i (h.lt i _ hx)]; exact e1, (e2.congr (hf b hlt)).ext hext (show AObj.bd _ (.map es) from h.bd i (.rom es) hx), fun ho => e3 (hown b hlt ho)⟩
  · intro g cs hx k v hv
    obtain ⟨e1, e2, e3⟩ := h.gl g cs hx k v hv
    have hlt := cell?_lt e1
    rw [add_block] at hlt
    refine ⟨?_, AV.bd_mono (by simp) v e2, fun ho => e3 (hown _ hlt ho)⟩
    rw [cell?_congr (hf _ (by rw [add_block]; exact hlt)), e1, ren_ext hext v e2]
  · intro i x hx
    rw [Heap.get_alloc] at hx
    split at hx
    · injection hx with hx; subst hx; exact AObj.bd_mono (by simp) _ hb
    · exact AObj.bd_mono (by simp) _ (h.bd i x hx)

/-- A number more, of no object. -/
theorem Sim.bump {ρ : Env} {H : Heap} {w : World} (h : HRel ρ H w) (e : Addr × Nat) : Sim ρ H w (ρ.set H.next none 0 e) { H with next := H.next + 1 } w := by
  generalize hρ : ρ.set H.next none 0 e = ρ' at *
  have hext : Ext H.next ρ ρ' := by rw [← hρ]; exact Env.set_ext _ _ _ _ _
  have hown : ∀ k, Owned ρ' { H with next := H.next + 1 } k → Owned ρ H k := by
    rintro k ⟨i, x, hx, hx1, hx2⟩
    rw [Heap.get_bump] at hx
    exact ⟨i, x, hx, hx1, by rw [← hext.addr i (h.lt i x hx)]; exact hx2⟩
  refine ⟨⟨?_, ?_, ?_, ?_, ?_, ?_, ?_, ?_⟩, hext, by simp, rfl, rfl, rfl, Nat.le_refl _, fun k hk _ => rfl, fun k _ ho => hown k ho, rfl, fun _ _ h _ => h, fun _ _ h _ => h⟩
  · intro i x hx
    rw [Heap.get_bump] at hx
    have := h.lt i x hx
    simp only
    omega
  · intro i x hx hxo
    rw [Heap.get_bump] at hx
    obtain ⟨b, e1, e2, e3⟩ := h.own i x hx hxo
    have hi := h.lt i x hx
    exact ⟨b, by rw [hext.addr i hi]; exact e1, e2, by rw [hext.rs i hi]; exact e3.ext hext (h.bd i x hx)⟩
  · intro i j x y hx hy hxo hyo he
    rw [Heap.get_bump] at hx hy
    rw [hext.addr i (h.lt i x hx), hext.addr j (h.lt j y hy)] at he
    exact h.inj i j x y hx hy hxo hyo he
  · intro i cs hx k v hv
    rw [Heap.get_bump] at hx
    obtain ⟨ad, e1, e2, e3⟩ := h.ro i cs hx k v hv
    exact ⟨ad, by rw [hext.addr i (h.lt i _ hx)]; exact e1, by rw [ren_ext hext v (h.bd i _ hx v (List.mem_of_getElem? hv))]; exact e2, fun ho => e3 (hown _ ho)⟩
  · intro i cs hx
    rw [Heap.get_bump] at hx
    obtain ⟨ad, e⟩ := h.roa i cs hx
    exact ⟨ad, by rw [hext.addr i (h.lt i _ hx)]; exact e⟩
  · intro i es hx
    rw [Heap.get_bump] at hx
    obtain ⟨b, e1, e2, e3⟩ := h.rom i es hx
    exact ⟨b, by rw [hext.addr i (h.lt i _ hx)]; exact e1, e2.ext hext (show AObj.bd _ (.map es) from h.bd i (.rom es) hx), fun ho => e3 (hown _ ho)⟩
  · intro g cs hx k v hv
    obtain ⟨e1, e2, e3⟩ := h.gl g cs hx k v hv
    exact ⟨by rw [ren_ext hext v e2]; exact e1, AV.bd_mono (by simp) v e2, fun ho => e3 (hown _ ho)⟩
  · intro i x hx
    rw [Heap.get_bump] at hx
    exact AObj.bd_mono (by simp) _ (h.bd i x hx)

/-- Where an own row is given up and its block bears a new one. -/
theorem Sim.taken {ρ : Env} {H : Heap} {w w' : World} {id b z : Nat} {o o' : AObj} (h : HRel ρ H w) (hg : H.get id = some o) (ho : o.own = true) (ha : ρ.addr id = some ⟨b, 0, none⟩)
    (ho' : o'.own = true) (hb' : o'.bd H.next) (hr : ORel (ρ.set H.next (some ⟨b, 0, none⟩) z (⟨0, 0, none⟩, 0)) w' b z o') (hs : w'.heap.size = w.heap.size) (hf : ∀ k, k ≠ b → w'.heap[k]? = w.heap[k]?)
    (h2 : w'.os = w.os) (h3 : w'.tape = w.tape) (h4 : w'.output = w.output) :
    Sim ρ H w (ρ.set H.next (some ⟨b, 0, none⟩) z (⟨0, 0, none⟩, 0)) ((H.set id none).alloc o') w' := by
  generalize hρ : ρ.set H.next (some ⟨b, 0, none⟩) z (⟨0, 0, none⟩, 0) = ρ' at *
  have hext : Ext H.next ρ ρ' := by rw [← hρ]; exact Env.set_ext _ _ _ _ _
  have hnew : ρ'.addr H.next = some ⟨b, 0, none⟩ := by rw [← hρ]; simp
  have hrs : ρ'.rs H.next = z := by rw [← hρ]; simp
  have hid : Owned ρ H b := ⟨id, o, hg, ho, ha⟩
  have hget : ∀ i x, ((H.set id none).alloc o').get i = some x → (i = H.next ∧ x = o') ∨ (i ≠ id ∧ i < H.next ∧ H.get i = some x) := by
    intro i x hx
    rw [Heap.get_alloc] at hx
    split at hx
    · rename_i hi; injection hx with hx; exact .inl ⟨hi, hx.symm⟩
    · rw [Heap.get_set] at hx
      split at hx
      · cases hx
      · rename_i hi; exact .inr ⟨hi, h.lt i x hx, hx⟩
  have hown : ∀ k, Owned ρ' ((H.set id none).alloc o') k → Owned ρ H k := by
    rintro k ⟨i, x, hx, hx1, hx2⟩
    rcases hget i x hx with ⟨rfl, rfl⟩ | ⟨hi, hlt, hx⟩
    · rw [hnew] at hx2
      injection hx2 with hx2
      injection hx2 with hx2
      rw [← hx2]; exact hid
    · exact ⟨i, x, hx, hx1, by rw [← hext.addr i hlt]; exact hx2⟩
  have hkeep : ∀ i x, H.get i = some x → x.own = false → ((H.set id none).alloc o').get i = some x := by
    intro i x hx hxo
    have := h.lt i x hx
    rw [Heap.get_alloc, if_neg (by simp; omega), Heap.get_set]
    split
    · rename_i hi; subst hi; rw [hg] at hx; injection hx with hx; subst hx; rw [ho] at hxo; cases hxo
    · exact hx
  have hmade : ∀ i x, ((H.set id none).alloc o').get i = some x → x.own = false → H.get i = some x := by
    intro i x hx hxo
    rcases hget i x hx with ⟨_, rfl⟩ | ⟨_, _, hx⟩
    · rw [ho'] at hxo; cases hxo
    · exact hx
  refine ⟨⟨?_, ?_, ?_, ?_, ?_, ?_, ?_, ?_⟩, hext, by simp, h2, h3, h4, by omega, ?_, fun k _ hk => hown k hk, rfl, hkeep, hmade⟩
  · intro i x hx
    rcases hget i x hx with ⟨rfl, rfl⟩ | ⟨hi, hlt, hx⟩ <;> simp <;> omega
  · intro i x hx hxo
    obtain ⟨b2, e1, e2, _⟩ := h.own id o hg ho
    rw [ha] at e1
    injection e1 with e1
    injection e1 with e1
    subst e1
    rcases hget i x hx with ⟨rfl, rfl⟩ | ⟨hi, hlt, hx⟩
    · exact ⟨b, hnew, by omega, by rw [hrs]; exact hr⟩
    · obtain ⟨b3, f1, f2, f3⟩ := h.own i x hx hxo
      refine ⟨b3, by rw [hext.addr i hlt]; exact f1, by omega, ?_⟩
      rw [hext.rs i hlt]
      refine (f3.congr (hf b3 ?_)).ext hext (h.bd i x hx)
      intro e
      subst e
      exact hi (h.inj i id x o hx hg hxo ho (by rw [f1, ha]))
  · intro i j x y hx hy hxo hyo he
    have side : ∀ i x, i ≠ id → i < H.next → H.get i = some x → x.own = true → ρ'.addr i ≠ some ⟨b, 0, none⟩ := by
      intro i x hi hlt hx hxo e
      rw [hext.addr i hlt] at e
      exact hi (h.inj i id x o hx hg hxo ho (by rw [e, ha]))
    rcases hget i x hx with ⟨hi1, _⟩ | ⟨hi, hlt, hx'⟩
    · rcases hget j y hy with ⟨hj1, _⟩ | ⟨hj, hlt', hy'⟩
      · rw [hi1, hj1]
      · subst hi1; exact absurd (he ▸ hnew) (side j y hj hlt' hy' hyo)
    · rcases hget j y hy with ⟨hj1, _⟩ | ⟨hj, hlt', hy'⟩
      · subst hj1; exact absurd (he.trans hnew) (side i x hi hlt hx' hxo)
      · rw [hext.addr i hlt, hext.addr j hlt'] at he
        exact h.inj i j x y hx' hy' hxo hyo he
  · intro i cs hx k v hv
    rcases hget i _ hx with ⟨_, hx⟩ | ⟨hi, hlt, hx⟩
    · rw [← hx] at ho'; simp [AObj.own] at ho'
    · obtain ⟨ad, e1, e2, e3⟩ := h.ro i cs hx k v hv
      refine ⟨ad, by rw [hext.addr i hlt]; exact e1, ?_, fun ho => e3 (hown _ ho)⟩
      rw [cell?_congr (hf _ ?_), ren_ext hext v (h.bd i _ hx v (List.mem_of_getElem? hv))]
      · exact e2
      · rw [add_block]; intro e; rw [e] at e3; exact e3 hid
  · intro i cs hx
    have hx := hmade i _ hx rfl
    obtain ⟨ad, e⟩ := h.roa i cs hx
    exact ⟨ad, by rw [hext.addr i (h.lt i _ hx)]; exact e⟩
  · intro i es hx
    rcases hget i _ hx with ⟨_, hx⟩ | ⟨hi, hlt, hx⟩
    · rw [← hx] at ho'; simp [AObj.own] at ho'
    · obtain ⟨b2, e1, e2, e3⟩ := h.rom i es hx
      exact ⟨b2, by rw [hext.addr i hlt]; exact e1, (e2.congr (hf b2 fun e => e3 (by rw [e]; exact hid))).ext hext (show AObj.bd _ (.map es) from h.bd i (.rom es) hx), fun ho => e3 (hown _ ho)⟩
  · intro g cs hx k v hv
    obtain ⟨e1, e2, e3⟩ := h.gl g cs hx k v hv
    refine ⟨?_, AV.bd_mono (by simp) v e2, fun ho => e3 (hown _ ho)⟩
    rw [cell?_congr (hf _ ?_), ren_ext hext v e2]
    · exact e1
    · rw [add_block]; intro e; simp only at e; rw [e] at e3; exact e3 hid
  · intro i x hx
    rcases hget i x hx with ⟨rfl, rfl⟩ | ⟨hi, hlt, hx⟩
    · exact AObj.bd_mono (by simp) _ hb'
    · exact AObj.bd_mono (by simp) _ (h.bd i x hx)
  · intro k hk hn
    exact hf k fun e => hn (by rw [e]; exact hid)

/-- Where an own object is given up. -/
theorem HRel.drop {ρ : Env} {H : Heap} {w : World} (h : HRel ρ H w) (id : Nat) (hid : ∀ o, H.get id = some o → o.own = true) : Sim ρ H w ρ (H.set id none) w := by
  have hget : ∀ i x, (H.set id none).get i = some x → H.get i = some x := by
    intro i x hx
    rw [Heap.get_set] at hx
    split at hx
    · cases hx
    · exact hx
  have hown : ∀ k, Owned ρ (H.set id none) k → Owned ρ H k := by
    rintro k ⟨i, x, hx, hx1, hx2⟩
    exact ⟨i, x, hget i x hx, hx1, hx2⟩
  have hkeep : ∀ i x, H.get i = some x → x.own = false → (H.set id none).get i = some x := by
    intro i x hx hxo
    rw [Heap.get_set]
    split
    · rename_i hi; subst hi; rw [hid x hx] at hxo; cases hxo
    · exact hx
  refine ⟨⟨fun i x hx => h.lt i x (hget i x hx), fun i x hx => h.own i x (hget i x hx), fun i j x y hx hy => h.inj i j x y (hget i x hx) (hget j y hy), ?_, fun i cs hx => h.roa i cs (hget i _ hx), ?_, ?_, fun i x hx => h.bd i x (hget i x hx)⟩, Ext.refl _ _, Nat.le_refl _, rfl, rfl, rfl, Nat.le_refl _, fun _ _ _ => rfl, fun k _ hk => hown k hk, rfl, hkeep, fun i x hx _ => hget i x hx⟩
  · intro i cs hx k v hv
    obtain ⟨ad, e1, e2, e3⟩ := h.ro i cs (hget i _ hx) k v hv
    exact ⟨ad, e1, e2, fun ho => e3 (hown _ ho)⟩
  · intro i es hx
    obtain ⟨b, e1, e2, e3⟩ := h.rom i es (hget i _ hx)
    exact ⟨b, e1, e2, fun ho => e3 (hown _ ho)⟩
  · intro g cs hx k v hv
    obtain ⟨e1, e2, e3⟩ := h.gl g cs hx k v hv
    exact ⟨e1, e2, fun ho => e3 (hown _ ho)⟩

end Go.Proofs.YtlcfkeigipkhlaaGreatDoorAbs
