/- The seat's rows: what they list, and what a contract gives. -/
import Derived.Test.YtlcfkeigipkhlaaGreatDoorGlue2
import Derived.Test.YtlcfkeigipkhlaaGreatDoorAwake
import Derived.Test.YtlcfkeigipkhlaaGreatDoorTie
import Derived.Test.YtlcfkeigipkhlaaGreatDoorCards
set_option linter.unusedVariables false
set_option linter.unusedSimpArgs false
namespace Go.Proofs.YtlcfkeigipkhlaaGreatDoorAbs
open Go Go.Proofs Go.ChangeShapes Go.WideShapes Go.ChangeAt Go.RowKit Go.Proofs.YtlcfkeigipkhlaaGreatDoor
theorem own : ownKnob Tryz.prog.godebug = none := by kernel_rfl
theorem laidOut : laidOutB Tryz.prog = true := by kernel_rfl
def laidAll : List (String × DataW Unit) := [("math/bits.deBruijn32tab", Rows.laid_math_bits_deBruijn32tab), ("math/bits.deBruijn64tab", Rows.laid_math_bits_deBruijn64tab), ("internal/strconv.uint64pow10", Rows.laid_internal_strconv_uint64pow10), ("strconv.ErrRange", Rows.laid_strconv_ErrRange), ("strconv.ErrSyntax", Rows.laid_strconv_ErrSyntax), ("transposal/day.months", Rows.laid_transposal_day_months)]
/-- What is listed stands in the abstract heap. -/
theorem gl_of_laid {W : World} (h : laidMetH Tryz.prog laidAll W) : ∀ g cs, glT g = some cs → ∀ i v, cs[i]? = some v → W.cell? ⟨g, i, none⟩ = some (ren env0 v) ∧ v.bd 0 := by
  rw [MakeChecks.laidMetH_plain _ _ _ (by kernel_rfl)] at h
  have r1 : Lib.VarReads Tryz.prog W "math/bits.deBruijn32tab" (.agg (bru32.map fun z => .lit (.int .u8 z))) := Lib.laidMet.reads h (.head _)
  have r2 : Lib.VarReads Tryz.prog W "math/bits.deBruijn64tab" (.agg (bru64.map fun z => .lit (.int .u8 z))) := Lib.laidMet.reads h (.tail _ (.head _))
  have r3 : Lib.VarReads Tryz.prog W "internal/strconv.uint64pow10" (.agg (pow10.map fun z => .lit (.int .u64 z))) := Lib.laidMet.reads h (.tail _ (.tail _ (.head _)))
  have r4 : Lib.VarReads Tryz.prog W "transposal/day.months" (.agg (months.map fun z => .lit (.int .i64 z))) := Lib.laidMet.reads h (.tail _ (.tail _ (.tail _ (.tail _ (.tail _ (.head _))))))
  intro g cs hg i v hv
  unfold glT at hg
  split at hg
  · injection hg with hg; subst hg
    obtain ⟨z, hz, rfl⟩ : ∃ z, months[i]? = some z ∧ .int .i64 z = v := by simpa [i64s] using hv
    exact ⟨by simp only [ren]; exact varArr r4 (g := 0) (t := 206) (e := 3) (by kernel_rfl) (by kernel_rfl) (by kernel_rfl) (by kernel_rfl) (by kernel_rfl) i z hz, by simp [AV.bd]⟩
  · injection hg with hg; subst hg
    obtain ⟨z, hz, rfl⟩ : ∃ z, pow10[i]? = some z ∧ .int .u64 z = v := by simpa [u64s] using hv
    exact ⟨by simp only [ren]; exact varArr r3 (g := 4) (t := 274) (e := 37) (by kernel_rfl) (by kernel_rfl) (by kernel_rfl) (by kernel_rfl) (by kernel_rfl) i z hz, by simp [AV.bd]⟩
  · injection hg with hg; subst hg
    obtain ⟨z, hz, rfl⟩ : ∃ z, bru32[i]? = some z ∧ .int .u8 z = v := by simpa [u8s] using hv
    exact ⟨by simp only [ren]; exact varArr r1 (g := 5) (t := 290) (e := 5) (by kernel_rfl) (by kernel_rfl) (by kernel_rfl) (by kernel_rfl) (by kernel_rfl) i z hz, by simp [AV.bd]⟩
  · injection hg with hg; subst hg
    obtain ⟨z, hz, rfl⟩ : ∃ z, bru64[i]? = some z ∧ .int .u8 z = v := by simpa [u8s] using hv
    exact ⟨by simp only [ren]; exact varArr r2 (g := 6) (t := 291) (e := 5) (by kernel_rfl) (by kernel_rfl) (by kernel_rfl) (by kernel_rfl) (by kernel_rfl) i z hz, by simp [AV.bd]⟩
  · cases hg

theorem trodAll_len {T : Type} {enc : TypeId × Value → T} {P : Program} {W : World} {base : Nat} {sp : Nat → Bool} {hd : Bool} : ∀ {ts : List TypeId} {vs : List Value} {ds : List (DataW T)} {ps : List MemPlace}, DataW.TrodAll enc P W base sp hd ts vs ds ps → vs.length = ts.length ∧ ds.length = ts.length
  | [], [], [], _, _ => ⟨rfl, rfl⟩
  | t :: ts, v :: vs, d :: ds, ps, ⟨p, q, h1, h2, e⟩ => by
    obtain ⟨a, b⟩ := trodAll_len h2
    exact ⟨by simp [a], by simp [b]⟩
  | [], [], _ :: _, _, h => h.elim
  | [], _ :: _, _, _, h => h.elim
  | _ :: _, [], _, _, h => h.elim
  | _ :: _, _ :: _, [], _, h => h.elim
set_option maxRecDepth 100000 in
/-- A law's row: whatever its arguments, it comes back with true. (pre: what the contract says, for all that can be taken over.) -/
theorem law_lifted {f : FuncId} {fn : Func} {s : ChangeSpec} {d : Nat} {wargs : Array Value} {wfuel : Nat} (hs : s.vars = []) (hspec : ∀ (T : Type) (ds : List (DataW T)), ds.length = fn.params.toList.length → s.fn T ds = { results := [.lit (.bool true)], args := ds })
    (hfn : Tryz.prog.funcs[f]? = some fn) (hres : fn.resultTypes = #[4]) (hno : Tryz.prog.inits.idxOf? f = none)
    (hrows : (fn.params.toList.all fun t => Tryz.prog.readableRec t && decide (t < Tryz.prog.types.size)) = true) (hplain : (fn.params.toList.all fun t => plainOK Tryz.prog d t) = true)
    (hwit : ∀ (os : Os) (T : Type) (enc : TypeId × Value → T), os.Started → ∃ (w : World) (tape : Tape) (i : Input), w.os = os ∧ (w.forCall tape i).Shaped Tryz.prog ∧ i.vars = [] ∧ Input.okWide Tryz.prog (w.forCall tape i) .any w.heap.size f i ∧
      ((s.pre enc Tryz.prog fn [] false (w.forCall tape i).memory i.args ∧ laidMetH Tryz.prog laidAll (w.forCall tape i).memory) ∧ sizedMet enc Tryz.prog fn (OpenSpec.ofChange s) false (w.forCall tape i).memory i.args) ∧ ({} : Assume).holds Tryz.prog (lone (Frame.enter Tryz.prog f i.args .normal) [] (w.forCall tape i)))
    (hlaw : ∀ (W : World) (base : Nat) (args : Array Value) (ρ : Env) (H : Heap) (ass : List (List AV)), (∀ (j : Nat) t v, fn.params[j]? = some t → args[j]? = some v → Value.okWide Tryz.prog W .any base t v) → args.size = fn.params.size → HRel ρ H W → NoOwn H → H.gl = glT → TookL Tryz.prog ρ H d (items fn.params.toList args.toList) ass →
      Calls Tryz.prog f args W fun e w' => e = .returned (.bool true) ∧ Below W.heap.size W w')
    (os : Os) (started : os.Started) (T : Type) (enc : TypeId × Value → T) :
    ReturnsInHanded {} Tryz.checked os f .any (fun w args => (s.pre enc Tryz.prog fn [] false w args ∧ laidMetH Tryz.prog laidAll w) ∧ sizedMet enc Tryz.prog fn (OpenSpec.ofChange s) false w args)
      (s.post enc Tryz.prog fn false true false false) := by
  refine returnsInHanded_of_change_and (C := Tryz.checked) (X := fun w _ => laidMetH Tryz.prog laidAll w) (fun _ _ _ hh h => h.of_heap hh) own started hno hfn (hwit os T enc started) ?_
  intro W base args ds gs before hval0 hW _ _ hL _
  have hval : ∀ (j : Nat) t v, fn.params[j]? = some t → args[j]? = some v → Value.okWide Tryz.prog W .any base t v := hval0
  have hW' := hW
  obtain ⟨p, q, hA0, hV, rfl, _, _⟩ := hW
  have hA : DataW.TrodAll enc Tryz.prog W 0 (fun _ => true) true fn.params.toList args.toList ds p := hA0
  have hvars : gs = [] ∧ q = [] := by rw [hs] at hV; exact trodVars_none hV
  obtain ⟨rfl, rfl⟩ := hvars
  obtain ⟨ρ, H, ass, e1, e2, e3, e4, e5⟩ := adoptArgs hplain hA (HRel.start (gl_of_laid hL)) (glHeap_noOwn glT)
  obtain ⟨l1, l2⟩ := trodAll_len hA
  refine (hlaw W base args ρ H ass hval (by simpa using l1) e3 e4 e2.gl e5).mono fun e W' ⟨he, hb⟩ => ?_
  subst he
  have hlt : ∀ x ∈ p, x.block < W.heap.size := fun x hx => hW'.lt x (by simp [hx])
  have hds : (ds ++ ([] : List (DataW T))).length = fn.params.toList.length := by simpa using l2
  refine ⟨_, rfl, ds, [], p ++ [], [], p, [], hW', ?_, ?_, ?_, hb.frame _, fun h => by cases h⟩
  · rw [hspec T _ hds, hres]
    exact trodAll_mk1 (shut_bool Tryz.underlying4 true)
  · rw [hspec T _ hds, List.append_nil]
    exact argsStay laidOut hb hrows hA hlt fun x hx => by simpa using hlt x hx
  · rw [hspec T _ hds, hs]
    rfl
end Go.Proofs.YtlcfkeigipkhlaaGreatDoorAbs
