/- EntrySums: the row, and the tied card. -/
import Derived.Test.YtlcfkeigipkhlaaGreatDoorRow
import Derived.Test.YtlcfkeigipkhlaaGreatDoorEntry3
import Derived.Test.YtlcfkeigipkhlaaGreatDoorE3
set_option maxRecDepth 100000
set_option linter.unusedVariables false
set_option linter.unusedSimpArgs false
namespace Go.Proofs.YtlcfkeigipkhlaaGreatDoorAbs
open Go Go.Proofs Go.ChangeShapes Go.WideShapes Go.ChangeAt Go.RowKit Go.Proofs.YtlcfkeigipkhlaaGreatDoor
theorem den_line {H : Heap} {n : Nat} {c : List AV} (h : Den Tryz.prog H (n + 2) 28 c) : ∃ l : Ln, c = encLn l ∧ l.ok := by
  obtain ⟨a0, b0, rfl, _, d0, a1, b1, rfl, _, d1, a2, b2, rfl, _, d2, a3, b3, rfl, _, d3, rfl⟩ := den_struct Tryz.underlying28 h
  obtain ⟨z0, rfl, p0, q0⟩ := den_int Tryz.underlying25 d0
  obtain ⟨z1, rfl, p1, q1⟩ := den_int Tryz.underlying26 d1
  obtain ⟨z2, rfl, p2, q2⟩ := den_int Tryz.underlying26 d2
  obtain ⟨z3, rfl, p3, q3⟩ := den_int Tryz.underlying2 d3
  exact ⟨⟨z0, z1, z2, z3⟩, rfl, ⟨⟨p0, q0⟩, ⟨p1, q1⟩, ⟨p2, q2⟩, ⟨p3, q3⟩⟩⟩
theorem den_lines {H : Heap} {n : Nat} {c : List AV} (h : Den Tryz.prog H (n + 3) 22 c) : ∃ a ls, c = [a] ∧ Lns H a ls := by
  obtain ⟨a, css, rfl, h1, _, h2⟩ := den_slice Tryz.underlying22 h
  have hc : Tryz.prog.cellsOf 28 = 4 := by kernel_rfl
  rw [hc] at h1
  have key : ∀ css : List (List AV), (∀ c ∈ css, c.length = Tryz.prog.cellsOf 28 ∧ Den Tryz.prog H (n + 2) 28 c) → ∃ ls : List Ln, css = ls.map encLn ∧ ∀ l ∈ ls, l.ok := by
    intro css
    induction css with
    | nil => exact fun _ => ⟨[], rfl, by simp⟩
    | cons c css ih =>
      intro hh
      obtain ⟨l, rfl, hl⟩ := den_line (hh c (by simp)).2
      obtain ⟨ls, rfl, hls⟩ := ih fun d hd => hh d (by simp [hd])
      exact ⟨l :: ls, rfl, by simpa using ⟨hl, hls⟩⟩
  obtain ⟨ls, rfl, hls⟩ := key css h2
  exact ⟨a, ls, rfl, h1, hls⟩
noncomputable def ann3 : FuncId → Ann
  | 3 => a3_0 | 19 => a19_0 | 20 => a20_0 | 21 => a21_0 | 22 => a22_0 | 54 => a54_0 | 55 => a55_0 | 56 => a56_0 | 57 => a57_0 | _ => .nil
noncomputable def L3 : Lib := libA Tryz.prog ann3 (yes [18, 53, 98, 122, 148, 178, 196, 210, 221])
theorem c3 : C3 L3 :=
  have u54 : C54 L3 := p54 ⟨by kernel_rfl, by kernel_rfl⟩
  have u55 : C55 L3 := p55 ⟨by kernel_rfl, by kernel_rfl⟩
  have u56 : C56 L3 := p56 ⟨by kernel_rfl, by kernel_rfl⟩
  have u57 : C57 L3 := p57 ⟨by kernel_rfl, by kernel_rfl⟩
  p3 ⟨by kernel_rfl, by kernel_rfl⟩ (yes_spec (by kernel_rfl)) (p19 ⟨by kernel_rfl, by kernel_rfl⟩) (p20 ⟨by kernel_rfl, by kernel_rfl⟩ u54 u55) (p21 ⟨by kernel_rfl, by kernel_rfl⟩ u56 u57) (p22 ⟨by kernel_rfl, by kernel_rfl⟩)
theorem law3 (W : World) (base : Nat) (args : Array Value) (ρ : Env) (H : Heap) (ass : List (List AV)) (hval : ∀ (j : Nat) t v, Tryz.f3.params[j]? = some t → args[j]? = some v → Value.okWide Tryz.prog W .any base t v) (hsz : args.size = Tryz.f3.params.size)
    (h : HRel ρ H W) (hn : NoOwn H) (hg : H.gl = glT) (ht : TookL Tryz.prog ρ H 5 (items Tryz.f3.params.toList args.toList) ass) : Calls Tryz.prog 3 args W fun e w' => e = .returned (.bool true) ∧ Below W.heap.size W w' := by
  rw [Tryz.params3] at hval hsz ht
  obtain ⟨v0, v1, rfl⟩ : ∃ v0 v1, args = #[v0, v1] := by
    obtain ⟨l⟩ := args
    match l, hsz with
    | [a, b], _ => exact ⟨a, b, rfl⟩
  match ass, ht with
  | [c0, c1], ⟨r0, b0, d0, r1, b1, d1, _⟩ =>
    obtain ⟨a, ls, rfl, hls⟩ := den_lines d0
    obtain ⟨few, rfl⟩ := den_bool Tryz.underlying4 d1
    rw [cells_slice Tryz.underlying22 (hval 0 22 v0 rfl rfl)] at r0
    rw [cells_bool' Tryz.underlying4 (hval 1 4 v1 rfl rfl)] at r1
    simp only [List.map_cons, List.map_nil, List.cons.injEq, and_true] at r0 r1
    have hx := c3 a few ls H hg hls LIM (Nat.le_refl _)
    have := calls_of (L := L3) (d := 0) (n := LIM + 4) (k18.calls extRows _) Tryz.func3 (c := c3_0) (by kernel_rfl) (by kernel_rfl) h hn (args := [a, .bool few]) (by
      intro v hv
      rcases List.mem_cons.1 hv with rfl | hv
      · exact b0 _ (by simp)
      · exact b1 _ (by simpa using hv)) hx
    rw [← r0, ← r1]
    exact this
theorem lifted3 (os : Os) (started : os.Started) (T : Type) (enc : TypeId × Value → T) : ReturnsInHanded {} Tryz.checked os 3 .any (fun w args => (Rows.entrySumsSpec.pre enc Tryz.prog Tryz.f3 [] false w args ∧ laidMetH Tryz.prog laidAll w) ∧ sizedMet enc Tryz.prog Tryz.f3 (OpenSpec.ofChange Rows.entrySumsSpec) false w args)
      (Rows.entrySumsSpec.post enc Tryz.prog Tryz.f3 false true false false) :=
  law_lifted (f := 3) (fn := Tryz.f3) (s := Rows.entrySumsSpec) (d := 5) (wargs := #[]) (wfuel := 0) rfl (by
    intro T ds h
    rw [Tryz.params3] at h
    match ds, h with
    | [a, b], _ => rfl) Tryz.func3 (by kernel_rfl) (by kernel_rfl) (by kernel_rfl) (by kernel_rfl)
    (fun os T enc _ => ChangeSpec.witness_shaped (enc := enc) (C := Tryz.checked) (os := os) (X := fun w _ => laidMetH Tryz.prog laidAll w) false (World.laidAll Tryz.prog os laidAll) #[.slice none 0 0, .bool false] 8 (World.laidAll_os _ _ _)
      (World.shaped_of_ZipB (by kernel_rfl) (by kernel_rfl)) (by kernel_rfl) (by kernel_rfl) (by kernel_rfl)
      (by rw [MakeChecks.laidMetH_plain _ _ _ (by kernel_rfl)]; exact laidMet_laidAll _ (by kernel_rfl) (by kernel_rfl)))
    law3 os started T enc
end Go.Proofs.YtlcfkeigipkhlaaGreatDoorAbs
namespace Go.Proofs.YtlcfkeigipkhlaaGreatDoor
open Go Go.Proofs Go.Proofs.YtlcfkeigipkhlaaGreatDoorAbs
/-- EntrySums: for every input the call comes back with true, and its arguments read as they did. -/
theorem entrySums_card : Rows.EntrySumsCardSaid := entrySums_carded (entrySums_said lifted3)
#print axioms entrySums_card
end Go.Proofs.YtlcfkeigipkhlaaGreatDoor
