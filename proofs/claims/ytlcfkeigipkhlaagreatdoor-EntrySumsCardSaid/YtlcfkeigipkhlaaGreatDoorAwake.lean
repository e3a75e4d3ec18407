/- Closed facts: the Awake functions, each run once by the kernel on package-level variables alone. -/
import Derived.Test.YtlcfkeigipkhlaaGreatDoorW2
import Derived.Test.YtlcfkeigipkhlaaGreatDoorProg
set_option linter.unusedVariables false
set_option linter.unusedSimpArgs false
namespace Go.Proofs.YtlcfkeigipkhlaaGreatDoorAbs
open Go Go.Proofs
def i64s (l : List Int) : List AV := l.map (.int .i64)
def u64s (l : List Int) : List AV := l.map (.int .u64)
def u8s (l : List Int) : List AV := l.map (.int .u8)
def months : List Int := [31, 28, 31, 30, 31, 30, 31, 31, 30, 31, 30, 31]
def pow10 : List Int := [1, 10, 100, 1000, 10000, 100000, 1000000, 10000000, 100000000, 1000000000, 10000000000, 100000000000, 1000000000000, 10000000000000, 100000000000000, 1000000000000000, 10000000000000000, 100000000000000000, 1000000000000000000, 10000000000000000000]
def bru32 : List Int := [0, 1, 28, 2, 29, 14, 24, 3, 30, 22, 20, 15, 25, 17, 4, 8, 31, 27, 13, 23, 21, 19, 16, 7, 26, 12, 18, 6, 11, 5, 10, 9]
def bru64 : List Int := [0, 1, 56, 2, 57, 49, 28, 3, 61, 58, 42, 50, 38, 29, 17, 4, 62, 47, 59, 36, 45, 43, 51, 22, 53, 39, 33, 30, 24, 18, 12, 5, 63, 55, 48, 27, 60, 41, 37, 16, 46, 35, 44, 21, 52, 32, 23, 11, 54, 26, 40, 15, 34, 20, 31, 10, 25, 14, 19, 9, 13, 8, 7, 6]
/-- What package-level variables hold. -/
def glT : Nat → Option (List AV)
  | 0 => some (i64s months)
  | 4 => some (u64s pow10)
  | 5 => some (u8s bru32)
  | 6 => some (u8s bru64)
  | _ => none
def glNeed (H : Heap) (g : Nat) (r : Res (AV × Heap)) : Res (AV × Heap) := .need ((H.gl g).map .tup) ((glT g).map .tup) r
/-- Where package-level variables stand so, the answer is true. -/
def yesM : List AV → M := fun args H => match args with
  | [] => glNeed H 0 (glNeed H 4 (glNeed H 5 (glNeed H 6 (.ret (.bool true, H)))))
  | _ => .fail
def yes (l : List Nat) : FuncId → Option (List AV → M) := fun g => match l.any (Nat.beq g) with
  | true => some yesM
  | false => none
theorem glT_of {H : Heap} (h0 : H.gl 0 = glT 0) (h4 : H.gl 4 = glT 4) (h5 : H.gl 5 = glT 5) (h6 : H.gl 6 = glT 6) : ∀ g cs, glT g = some cs → H.gl g = some cs ∧ ∀ v ∈ cs, v.bd 0 := by
  intro g cs hg
  have hb : ∀ (k : IntKind) (l : List Int), ∀ v ∈ l.map (AV.int k), v.bd 0 := by
    intro k l v hv
    obtain ⟨z, _, rfl⟩ := List.mem_map.1 hv
    simp [AV.bd]
  unfold glT at hg
  split at hg
  · injection hg with hg; subst hg; exact ⟨by rw [h0]; rfl, hb _ _⟩
  · injection hg with hg; subst hg; exact ⟨by rw [h4]; rfl, hb _ _⟩
  · injection hg with hg; subst hg; exact ⟨by rw [h5]; rfl, hb _ _⟩
  · injection hg with hg; subst hg; exact ⟨by rw [h6]; rfl, hb _ _⟩
  · cases hg
theorem glO {H : Heap} {g : Nat} {l : List AV} (h : (H.gl g).map AV.tup = (some l).map AV.tup) : H.gl g = some l := by
  cases hh : H.gl g with
  | none => rw [hh] at h; cases h
  | some x =>
    rw [hh] at h
    simp only [Option.map_some, Option.some.injEq, AV.tup.injEq] at h
    rw [h]
theorem yes_nil : Known Tryz.prog (yes []) := fun _ _ _ _ _ _ _ h => by cases h
/-- One more. -/
theorem yes_more (R : ExtRows Tryz.prog) {l : List Nat} (hk : Known Tryz.prog (yes l)) {f n : Nat} {ann : FuncId → Ann} (h : (callA Tryz.prog (libA Tryz.prog ann (yes l)) n f [] (glHeap glT)).all fun r => r.1 = .bool true) : Known Tryz.prog (yes (f :: l)) := by
  intro g m args ρ H w Q hg hr hb hx
  have hgl : yes (f :: l) g = (match Nat.beq g f with | true => some yesM | false => yes l g) := by
    unfold yes
    simp only [List.any_cons]
    cases Nat.beq g f <;> rfl
  rw [hgl] at hg
  cases hgf : Nat.beq g f with
  | true =>
    rw [hgf] at hg
    injection hg with hg
    subst hg
    obtain rfl := Nat.eq_of_beq_eq_true hgf
    cases args with
    | cons a rest => exact hx.elim
    | nil =>
      obtain ⟨h0, h4, h5, h6, hq⟩ := hx
      exact closed_call R hk (v0 := .bool true) (fun _ _ => by simp [ren]) (fun _ => by simp [AV.bd]) h hr (glT_of (glO h0) (glO h4) (glO h5) (glO h6)) hq
  | false =>
    rw [hgf] at hg
    exact hk g m args ρ H w Q hg hr hb hx

/-- A closed fact that is known. -/
def Yes (L : Lib) (g : FuncId) : Prop := ∀ H : Heap, H.gl = glT → Spec Tryz.prog L 1 g [] H fun r H' => r = .bool true ∧ H = H'
theorem yes_spec {L : Lib} {g : FuncId} (h : L.sum g = some yesM) : Yes L g := by
  intro H hg m hm
  have e : callA Tryz.prog L (m + 1) g [] H = yesM [] H := by simp only [callA, h]
  rw [e]
  show (H.gl 0).map AV.tup = _ ∧ (H.gl 4).map AV.tup = _ ∧ (H.gl 5).map AV.tup = _ ∧ (H.gl 6).map AV.tup = _ ∧ _
  rw [hg]
  exact ⟨rfl, rfl, rfl, rfl, rfl, rfl⟩

def namesB (P : Program) : Bool := (P.funcs.toList.zipIdx.all fun x => x.1.name != "runtime.NumGoroutine" && ((x.1.name != "internal/bytealg.IndexByteString" || x.2 == 169) && (x.1.name != "slices.overlaps[uint16]" || x.2 == 175)))
theorem namesOk : namesB Tryz.prog = true := by kernel_rfl
theorem names_at {f : FuncId} {fn : Func} (h : Tryz.prog.funcs[f]? = some fn) : (fn.name == "runtime.NumGoroutine") = false ∧ (fn.name = "internal/bytealg.IndexByteString" → f = 169) ∧ (fn.name = "slices.overlaps[uint16]" → f = 175) := by
  have hm : (fn, f) ∈ Tryz.prog.funcs.toList.zipIdx := by
    rw [List.mem_zipIdx_iff_getElem?]
    simpa using h
  have := List.all_eq_true.1 namesOk _ hm
  simp only [Bool.and_eq_true, Bool.or_eq_true, bne_iff_ne, ne_eq, beq_iff_eq] at this
  obtain ⟨h1, h2, h3⟩ := this
  refine ⟨by simpa using h1, fun e => ?_, fun e => ?_⟩
  · rcases h2 with h2 | h2
    · exact absurd e h2
    · exact h2
  · rcases h3 with h3 | h3
    · exact absurd e h3
    · exact h3
theorem extRows : ExtRows Tryz.prog where
  num f fn h := (names_at h).1
  byte f fn h hb hn := by
    obtain rfl := (names_at h).2.1 hn
    obtain rfl := Option.some.inj (Tryz.func169.symm.trans h)
    exact ⟨by kernel_rfl, by kernel_rfl⟩
  over f fn h hb hn := by
    obtain rfl := (names_at h).2.2 hn
    obtain rfl := Option.some.inj (Tryz.func175.symm.trans h)
    exact ⟨by kernel_rfl, 50, 4, 26, 1, by kernel_rfl, by kernel_rfl, by kernel_rfl⟩

noncomputable def aw (l : List Nat) (f : Nat) : Res (AV × Heap) := callA Tryz.prog (libA Tryz.prog (fun _ => .nil) (yes l)) 1000 f [] (glHeap glT)
theorem yes_chk {l : List Nat} {f : Nat} (hk : Known Tryz.prog (yes l)) (h : Res.chk true 300 (aw l f) = true) : Known Tryz.prog (yes (f :: l)) := yes_more extRows hk (n := 1000) (ann := fun _ => .nil) (Res.chk_all _ _ h)
theorem sameO_all : ∀ l : List (Option AV × Option AV), l.all (fun p => AV.sameO p.1 p.2) = true → l.map (·.1) = l.map (·.2)
  | [], _ => rfl
  | p :: l, h => by
    simp only [List.all_cons, Bool.and_eq_true] at h
    simp only [List.map_cons, AV.sameO_eq h.1, sameO_all l h.2]
/-- Where a row's capacity may be any. -/
theorem yes_every {l : List Nat} {f : Nat} (hk : Known Tryz.prog (yes l)) (e : (Res.rest 300 (aw l f)).isEvery = true) (q : (Res.eqs 300 (aw l f)).all (fun p => AV.sameO p.1 p.2) = true)
    (a : Res.chk true 300 ((Res.rest 300 (aw l f)).pick 0) = true) (b : ∀ d, Res.chk true 300 ((Res.rest 300 (aw l f)).pick (d + 1)) = true) : Known Tryz.prog (yes (f :: l)) := by
  refine yes_more extRows hk (n := 1000) (ann := fun _ => .nil) ?_
  refine Res.all_rest 300 _ (sameO_all _ q) (Res.all_every e fun d => ?_)
  cases d with
  | zero => exact Res.chk_all _ _ a
  | succ d => exact Res.chk_all _ _ (b d)
theorem a221 : Res.chk true 300 (aw [] 221) = true := by kernel_rfl
theorem k221 : Known Tryz.prog (yes [221]) := yes_chk yes_nil a221
theorem a210 : Res.chk true 300 (aw [221] 210) = true := by kernel_rfl
theorem k210 : Known Tryz.prog (yes [210, 221]) := yes_chk k221 a210
theorem a196 : Res.chk true 300 (aw [210, 221] 196) = true := by kernel_rfl
theorem k196 : Known Tryz.prog (yes [196, 210, 221]) := yes_chk k210 a196
theorem a178 : Res.chk true 300 (aw [196, 210, 221] 178) = true := by kernel_rfl
theorem k178 : Known Tryz.prog (yes [178, 196, 210, 221]) := yes_chk k196 a178
theorem a148 : Res.chk true 300 (aw [178, 196, 210, 221] 148) = true := by kernel_rfl
theorem k148 : Known Tryz.prog (yes [148, 178, 196, 210, 221]) := yes_chk k178 a148
theorem a122 : Res.chk true 300 (aw [148, 178, 196, 210, 221] 122) = true := by kernel_rfl
theorem k122 : Known Tryz.prog (yes [122, 148, 178, 196, 210, 221]) := yes_chk k148 a122
theorem e98 : (Res.rest 300 (aw [122, 148, 178, 196, 210, 221] 98)).isEvery = true := by kernel_rfl
theorem q98 : (Res.eqs 300 (aw [122, 148, 178, 196, 210, 221] 98)).all (fun p => AV.sameO p.1 p.2) = true := by kernel_rfl
theorem a98 : Res.chk true 300 ((Res.rest 300 (aw [122, 148, 178, 196, 210, 221] 98)).pick 0) = true := by kernel_rfl
theorem b98 (d : Nat) : Res.chk true 300 ((Res.rest 300 (aw [122, 148, 178, 196, 210, 221] 98)).pick (d + 1)) = true := by kernel_rfl
theorem k98 : Known Tryz.prog (yes [98, 122, 148, 178, 196, 210, 221]) := yes_every k122 e98 q98 a98 b98
theorem a53 : Res.chk true 300 (aw [98, 122, 148, 178, 196, 210, 221] 53) = true := by kernel_rfl
theorem k53 : Known Tryz.prog (yes [53, 98, 122, 148, 178, 196, 210, 221]) := yes_chk k98 a53
theorem a18 : Res.chk true 300 (aw [53, 98, 122, 148, 178, 196, 210, 221] 18) = true := by kernel_rfl
theorem k18 : Known Tryz.prog (yes [18, 53, 98, 122, 148, 178, 196, 210, 221]) := yes_chk k53 a18
end Go.Proofs.YtlcfkeigipkhlaaGreatDoorAbs
