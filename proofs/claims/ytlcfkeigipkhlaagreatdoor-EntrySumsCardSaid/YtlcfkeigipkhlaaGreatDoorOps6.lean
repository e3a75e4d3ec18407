/- Single operations: the other builtins, conversions, maps, iterators. -/
import Derived.Test.YtlcfkeigipkhlaaGreatDoorOps5
import Derived.Laws.BytesArg
import Derived.Laws.BytesString
set_option linter.unusedVariables false
set_option linter.unusedSimpArgs false
namespace Go.Proofs.YtlcfkeigipkhlaaGreatDoorAbs
open Go.RowKit
variable {P : Program}

theorem isSeq_not_int {u : TypeId} (h : isSeqT P u = true) : isIntT P u = false := by
  unfold isSeqT at h
  unfold isIntT
  split at h <;> simp_all

theorem run_getObj' {w : World} {r : Nat} {o : Obj} (h : w.heap[r]? = some o) (ho : ∀ c e f, o ≠ .cells c e f := by intros; simp) : (getObj r).run P w = .ok o w := by
  unfold getObj
  simp only [Sem.run, h]
theorem run_setObj' {w : World} {r : Nat} {o o' : Obj} (h : w.heap[r]? = some o) (ho : ∀ c e f, o ≠ .cells c e f := by intros; simp) : (setObj r o').run P w = .ok () { w with heap := w.heap.setIfInBounds r o' } := by
  unfold setObj
  simp only [Sem.run, h]
theorem set_facts (w : World) {r : Nat} {o : Obj} (o' : Obj) (h : w.heap[r]? = some o) : ({ w with heap := w.heap.setIfInBounds r o' } : World).heap.size = w.heap.size ∧ (∀ k, k ≠ r → ({ w with heap := w.heap.setIfInBounds r o' } : World).heap[k]? = w.heap[k]?) ∧ ({ w with heap := w.heap.setIfInBounds r o' } : World).heap[r]? = some o' := by
  have hr : r < w.heap.size := (Array.getElem?_eq_some_iff.1 h).1
  refine ⟨by simp, fun k hk => ?_, by simp [hr]⟩
  simp only [Array.getElem?_setIfInBounds]
  rw [if_neg (by omega)]

theorem builtinA_sound {ρ : Env} {H H' : Heap} {w : World} (h : HRel ρ H w) {b : Builtin} {ts : Array TypeId} {ty : TypeId} {args : List AV} {v : AV} {consts : Array Bool} (hb : ∀ x ∈ args, x.bd H.next) (hx : builtinA P b ts ty args H = some (v, H')) :
    ∃ ρ' w', (builtin b ts ty consts (args.map (ren ρ)).toArray).run P w = .ok (.value (ren ρ' v)) w' ∧ Sim ρ H w ρ' H' w' ∧ v.bd H'.next := by
  unfold builtinA at hx
  split at hx
  · -- append
    rename_i t u x y htl
    have hts : ts = #[t, u] := by apply Array.ext'; simpa using htl
    subst hts
    split at hx
    · rename_i e he
      have hu := elemA_some he
      split at hx
      · rename_i hi
        split at hx
        · rename_i n z bb hz hby
          split at hx
          · rename_i hc
            obtain ⟨c1, c2, c3⟩ := hc
            obtain ⟨k, rfl⟩ := Int.eq_ofNat_of_zero_le c1
            have src : AppSrc P e z.length bb z ρ H u (.int .i64 k) k (repeatL z k) := .zeros hi rfl (by omega) c3 rfl
            simp only [Int.toNat_natCast] at hx
            obtain ⟨ρ', w', e1, e2, e3⟩ := appendA_sound (ty := ty) h hu hz hby (hb x (by simp)) src hx
            refine ⟨ρ', w', ?_, e2, e3⟩
            simp [builtin, e1]
          · cases hx
        · cases hx
      · rename_i hi
        split at hx
        · rename_i k s hl hs hsq
          split at hx
          · rename_i new hf
            have hx' := hx
            unfold appendA at hx'
            split at hx'
            · rename_i z bb hz hby
              obtain ⟨zv, z1, z2, z3, z4⟩ := zcellsA_some hz
              have hss : s = z.length := by rw [hs] at z3; injection z3
              subst hss
              have src : AppSrc P e z.length bb z ρ H u y k new := .read hsq hl hf
              obtain ⟨ρ', w', e1, e2, e3⟩ := appendA_sound (ty := ty) h hu hz hby (hb x (by simp)) src hx
              refine ⟨ρ', w', ?_, e2, e3⟩
              simp [builtin, e1]
            · cases hx'
          · cases hx
        · cases hx
    · cases hx
  · -- copy
    rename_i t tl x y htl
    obtain ⟨hd0, hts⟩ : ts[0]? = some t ∧ True := ⟨by rw [← Array.getElem?_toList, htl]; rfl, trivial⟩
    split at hx
    · rename_i e he
      have hu := elemA_some he
      split at hx
      · rename_i s m k hs hm hk
        have em := lenA_run (P := P) (ρ := ρ) (w := w) hm
        have ek := lenA_run (P := P) (ρ := ρ) (w := w) hk
        split at hx
        · rename_i new id off len c hf
          have hlen : len = m := by simp [lenA] at hm; exact hm
          subst hlen
          obtain ⟨ef, hnb⟩ := firstA_run (P := P) h rfl hf
          split at hx
          · rename_i h0
            injection hx with hx
            injection hx with hx1 hx2
            subst hx1 hx2
            refine ⟨ρ, w, ?_, Sim.refl h, by simp [AV.bd]⟩
            have hn0 : new = [] := by
              have hfl : new.length = 0 * s := by
                rw [h0] at hf
                unfold firstA at hf
                split at hf
                · split at hf
                  · exact (loadN_some hf).2.1
                  · cases hf
                · simp at hf; subst hf; simp
                · simp at hf; subst hf; simp
                · simp at hf; subst hf; simp [bytesAV]
                · cases hf
              exact List.eq_nil_of_length_eq_zero (by simpa using hfl)
            subst hn0
            have hmin : Nat.min k len = min k len := rfl
            cases c <;> simp [builtin, Builtin.copy_, hd0, run_und hu, ren, ek, run_siz hs, hmin, ef, h0, goInt]
            all_goals (rw [h0] at ef; simp at ef; simp [ef]; cases ρ.addr id <;> simp [storeCells])
          · rename_i h0
            cases hp : H.put id off new with
            | none => simp [hp] at hx
            | some H2 =>
              simp [hp] at hx
              obtain ⟨hx1, hx2⟩ := hx
              subst hx1 hx2
              obtain ⟨blk, w', g1, g2, g3⟩ := put_sound (P := P) h hnb hp
              refine ⟨ρ, w', ?_, g3, by simp [AV.bd]⟩
              have hmin : Nat.min k len = min k len := rfl
              cases c <;> simp [builtin, Builtin.copy_, hd0, run_und hu, ren, ek, run_siz hs, hmin, ef, g1, add_base, g2, goInt]
        · rename_i new hf
          injection hx with hx
          injection hx with hx1 hx2
          subst hx1 hx2
          have hm0 : m = 0 := by simp [lenA] at hm; exact hm.symm
          subst hm0
          obtain ⟨ef, hnb⟩ := firstA_run (P := P) h rfl hf
          have hmin : Nat.min k 0 = min k 0 := rfl
          refine ⟨ρ, w, ?_, Sim.refl h, by simp [AV.bd]⟩
          simp [builtin, Builtin.copy_, hd0, run_und hu, ren, ek, run_siz hs, hmin, ef, goInt]
          rw [Nat.min_zero] at ef
          simp [ef]
        · cases hx
      · cases hx
    · cases hx
  · -- len
    rename_i t x htl
    obtain ⟨hd0, hts⟩ : ts[0]? = some t ∧ True := ⟨by rw [← Array.getElem?_toList, htl]; rfl, trivial⟩
    split at hx
    · rename_i s hu
      injection hx with hx
      injection hx with hx1 hx2
      subst hx1 hx2
      exact ⟨ρ, w, by simp [builtin, Builtin.len_, hd0, run_und hu, ren, goInt], Sim.refl h, by simp [AV.bd]⟩
    · rename_i n e hu
      injection hx with hx
      injection hx with hx1 hx2
      subst hx1 hx2
      exact ⟨ρ, w, by simp [builtin, Builtin.len_, hd0, run_und hu, ren, goInt], Sim.refl h, by simp [AV.bd]⟩
    · rename_i e hu
      split at hx
      all_goals first
        | (injection hx with hx
           injection hx with hx1 hx2
           subst hx1 hx2
           refine ⟨ρ, w, ?_, Sim.refl h, by simp [AV.bd]⟩
           first
             | (simp [builtin, Builtin.len_, hd0, run_und hu, ren, goInt]; done)
             | (rename_i c; cases c <;> simp [builtin, Builtin.len_, hd0, run_und hu, ren, goInt]))
        | cases hx
    · rename_i k e hu
      injection hx with hx
      injection hx with hx1 hx2
      subst hx1 hx2
      exact ⟨ρ, w, by simp [builtin, Builtin.len_, hd0, run_und hu, ren, goInt], Sim.refl h, by simp [AV.bd]⟩
    · rename_i k e id hu
      split at hx
      · rename_i es hg
        injection hx with hx
        injection hx with hx1 hx2
        subst hx1 hx2
        obtain ⟨blk, e1, e2, ents, e3, e4, e5⟩ := h.own id _ hg rfl
        refine ⟨ρ, w, ?_, Sim.refl h, by simp [AV.bd]⟩
        have hl : ents.size = es.length := by
          have := congrArg List.length e4
          simpa using this
        simp [builtin, Builtin.len_, hd0, run_und hu, ren, goInt, e1, run_getObj' e3, hl]
      · cases hx
    · cases hx
  · injection hx with hx
    injection hx with hx1 hx2
    subst hx1 hx2
    refine ⟨ρ, w, ?_, Sim.refl h, by simp [AV.bd]⟩
    simp [builtin, Builtin.min_, ren, Builtin.min2]
  · injection hx with hx
    injection hx with hx1 hx2
    subst hx1 hx2
    refine ⟨ρ, w, ?_, Sim.refl h, by simp [AV.bd]⟩
    simp [builtin, Builtin.max_, ren, Builtin.max2]
  · cases hx

theorem junks_mem {n : Nat} {v : AV} (h : v ∈ junks n) : v = .junk := by
  induction n with
  | zero => cases h
  | succ n ih => rcases List.mem_cons.1 h with h | h
                 · exact h
                 · exact ih h
theorem junks_length (n : Nat) : (junks n).length = n := by
  induction n with
  | zero => rfl
  | succ n ih => simp [junks, ih]
theorem capA_sound {ρ : Env} {H : Heap} {w : World} (h : HRel ρ H w) {t : TypeId} {ts : Array TypeId} {ty : TypeId} {x : AV} {consts : Array Bool} {Q : AV × Heap → Prop} (hd0 : ts[0]? = some t) (hx : (capA P t x H).all Q) :
    ∃ v H' ρ' w', (builtin .cap ts ty consts #[ren ρ x]).run P w = .ok (.value (ren ρ' v)) w' ∧ Sim ρ H w ρ' H' w' ∧ v.bd H'.next ∧ Q (v, H') := by
  obtain ⟨hnr, hnrb⟩ := normCap_ren h x
  rw [← hnr]
  unfold capA at hx
  generalize normCap H x = x at *
  split at hx
  · rename_i e id off len n hu
    exact ⟨_, _, ρ, w, by simp [builtin, Builtin.cap_, hd0, run_und hu, ren, goInt], Sim.refl h, by simp [AV.bd], hx⟩
  · rename_i e hu
    exact ⟨_, _, ρ, w, by simp [builtin, Builtin.cap_, hd0, run_und hu, ren, goInt], Sim.refl h, by simp [AV.bd], hx⟩
  · rename_i e id len hu
    split at hx
    · rename_i cs f e' hg
      split at hx
      · rename_i hle
        obtain ⟨blk, e1, e2, arr, fr, e3, e4, e5, e6, e6', e7, e8⟩ := h.own id _ hg rfl
        have hq := hx (arr.size - cs.length)
        simp only [Res.all] at hq
        have hor : ORel ρ w blk (ρ.rs id) (.row (cs ++ junks (arr.size - cs.length)) .yes e') := by
          refine ⟨arr, fr, e3, e4, e5, fun _ => ?_, (fun hf => by cases hf), ?_, fun i v hv => ?_⟩
          · rw [List.length_append, junks_length]; omega
          · rw [List.length_append, junks_length]; omega
          · by_cases hi : i < cs.length
            · rw [List.getElem?_append_left hi] at hv
              exact e8 i v hv
            · rw [List.getElem?_append_right (by omega)] at hv
              exact .inl (junks_mem (List.mem_of_getElem? hv))
        refine ⟨_, _, ρ, w, ?_, Sim.write h hg rfl e1 rfl ?_ hor rfl (fun _ _ => rfl) rfl rfl rfl, by simp [AV.bd], hq⟩
        · simp [builtin, Builtin.cap_, hd0, run_und hu, ren, goInt]
          omega
        · intro v hv
          rcases List.mem_append.1 hv with hv | hv
          · exact h.bd id _ hg v hv
          · rw [junks_mem hv]; simp [AV.bd]
      · exact hx.elim
    · exact hx.elim
  · exact hx.elim

/-! ### Conversions -/
theorem numsA_some {ρ : Env} : ∀ {l : List AV} {ns : List Int}, numsA l = some ns → l.map (ren ρ) = ns.map (Value.int .u8)
  | [], ns, h => by simp [numsA] at h; subst h; rfl
  | x :: l, ns, h => by
    obtain ⟨n, rfl⟩ : ∃ n, x = .int .u8 n := by
      unfold numsA at h
      split at h
      · rename_i e; cases e
      · rename_i n l' e; injection e with e1 e2; exact ⟨n, e1⟩
      · cases h
    simp only [numsA] at h
    cases hn : numsA l with
    | none => simp [hn] at h
    | some ms =>
      simp [hn] at h
      subst h
      simp [ren, numsA_some (ρ := ρ) hn]
theorem convert_empty {w : World} {src dst e : TypeId} {A : Option Addr} {c : Nat} (hs : P.underlying src = some (.slice e)) (he : P.underlying e = some (.int .u8)) (hd : P.underlying dst = some .string) : (convert src dst (.slice A 0 c)).run P w = .ok (.string ByteArray.empty) w := by
  rw [run_convert_bytes_string w src dst e _ 0 c hs he hd]
  cases A <;> simp [Conv.bytesToString, loadCells, loadCellsFrom]

theorem bytesStrA_sound {ρ : Env} {H : Heap} {w : World} (h : HRel ρ H w) {src dst e : TypeId} {x : AV} {s : ByteArray} (hs : P.underlying src = some (.slice e)) (hd : P.underlying dst = some .string) (hx : bytesStrA P e x H = some s) :
    (convert src dst (ren ρ x)).run P w = .ok (.string s) w := by
  unfold bytesStrA at hx
  split at hx
  · rename_i n he hl
    split at hx
    · rename_i l hf
      split at hx
      · rename_i ns hns
        injection hx with hx
        subst hx
        have hr : (⟨(ns.map fun n => UInt8.ofNat n.toNat).toArray⟩ : ByteArray) = strOfNums ns := rfl
        rw [hr]
        have empty : n = 0 → l = [] → ∀ A c, ren ρ x = .slice A 0 c → (convert src dst (ren ρ x)).run P w = .ok (.string (strOfNums ns)) w := by
          intro h0 h1 A c hx
          subst h1
          simp [numsA] at hns
          subst hns
          rw [hx, convert_empty hs he hd]
          rfl
        unfold firstA at hf
        split at hf
        · rename_i id off len c
          have hln : len = n := by simp [lenSlA] at hl; exact hl
          subst hln
          split at hf
          · rename_i cs hc
            obtain ⟨e1, e2, e3⟩ := h.cells hc
            obtain ⟨f1, f2, f3, f4⟩ := loadN_some hf
            by_cases h0 : len = 0
            · have hl0 : l = [] := List.eq_nil_of_length_eq_zero (by omega)
              cases c with
              | exact m => exact empty h0 hl0 _ m (by simp [ren, h0]; rfl)
              | tail z => exact empty h0 hl0 _ ((ρ.rs id - off) / z) (by simp [ren, h0]; rfl)
            · have hlt : off < cs.length := by omega
              obtain ⟨ad, cap, g1, g2, _, _⟩ := sl_ren h (s := 1) (len := len) (c := c) hc hlt
              obtain ⟨ad', k1, k2⟩ := e3 off _ (List.getElem?_eq_getElem hlt)
              rw [g1] at k1
              injection k1 with k1
              subst k1
              replace k2 := k2.resolve_left (cell_nj (loadN_cell hf _ (List.mem_of_getElem? (i := 0) (by rw [f4 0 (by omega)]; exact List.getElem?_eq_getElem hlt))))
              have hsp : (ad.add off).spot = none := by
                unfold World.cell? at k2
                split at k2
                · split at k2
                  · cases k2
                  · rename_i hns; simpa using hns
                · cases k2
              have had : ad.add off = ⟨(ad.add off).block, (ad.add off).off, none⟩ := by rw [← hsp]
              rw [g2, had]
              have hmap := numsA_some (ρ := ρ) hns
              have hnl : ns.length = len := by
                have := congrArg List.length hmap
                simp at this
                omega
              refine run_convert_bytes_arg w src e hs he _ _ len cap ns hnl (fun i hi => ?_) dst hd
              have hplain : (⟨(ad.add off).block, (ad.add off).off + i, none⟩ : Addr) = (ad.add off).add i := by
                unfold Addr.add at *
                by_cases hi0 : i = 0
                · subst hi0
                  simp at had ⊢
                  exact had.symm
                · simp [hi0]
              rw [hplain, add_add]
              have hli : l[i]? = cs[off + i]? := f4 i (by omega)
              have hil : i < l.length := by omega
              rw [List.getElem?_eq_getElem hil] at hli
              obtain ⟨ad2, m1, m2⟩ := e3 _ _ hli.symm
              rw [g1] at m1
              injection m1 with m1
              subst m1
              replace m2 := m2.resolve_left (cell_nj (loadN_cell hf _ (List.getElem_mem hil)))
              rw [m2]
              have h2 : (l.map (ren ρ))[i]? = (ns.map (Value.int .u8))[i]? := by rw [hmap]
              rw [List.getElem?_map, List.getElem?_map, List.getElem?_eq_getElem hil, List.getElem?_eq_getElem (show i < ns.length by omega)] at h2
              simp only [Option.map_some] at h2
              injection h2 with h2
              rw [h2]
              simp [List.getD_eq_getElem?_getD, List.getElem?_eq_getElem (show i < ns.length by omega)]
          · cases hf
        · split at hf
          · rename_i h0
            injection hf with hf
            exact empty h0 hf.symm none 0 (by simp [ren])
          · cases hf
        · split at hf
          · rename_i id h0
            injection hf with hf
            exact empty h0 hf.symm (some (ρ.emp id).1) (ρ.emp id).2 (by simp only [ren])
          · cases hf
        · simp [lenSlA] at hl
        · cases hf
      · cases hx
    · cases hx
  · cases hx

theorem convertA_sound {ρ : Env} {H H' : Heap} {w : World} (h : HRel ρ H w) {src dst : TypeId} {x v : AV} (hb : x.bd H.next) (hx : convertA P src dst x H = some (v, H')) :
    ∃ ρ' w', (convert src dst (ren ρ x)).run P w = .ok (ren ρ' v) w' ∧ Sim ρ H w ρ' H' w' ∧ v.bd H'.next := by
  unfold convertA at hx
  split at hx
  · rename_i d k kk n hs hd
    injection hx with hx
    injection hx with hx1 hx2
    subst hx1 hx2
    exact ⟨ρ, w, by simp [convert, run_und hs, run_und hd, ren, Conv.intToInt], Sim.refl h, by simp [AV.bd]⟩
  · rename_i k kk n hs hd
    injection hx with hx
    injection hx with hx1 hx2
    subst hx1 hx2
    exact ⟨ρ, w, by simp [convert, run_und hs, run_und hd, ren, Conv.intToString], Sim.refl h, by simp [AV.bd]⟩
  · rename_i s hs hd
    injection hx with hx
    injection hx with hx1 hx2
    subst hx1 hx2
    exact ⟨ρ, w, by simp [convert, run_und hs, run_und hd, ren], Sim.refl h, by simp [AV.bd]⟩
  · rename_i e s hs hd
    split at hx
    · rename_i he hse
      split at hx
      · rename_i hsz
        injection hx with hx
        injection hx with hx1 hx2
        subst hx1 hx2
        have hforced : (Question.appendCap s.size 0 e).forced = false := rfl
        have hnc : s.size ≤ (Question.appendCap s.size 0 e).cut (w.tape w.drawn (.appendCap s.size 0 e)) := by simp [Question.cut]
        generalize hcap : (Question.appendCap s.size 0 e).cut (w.tape w.drawn (.appendCap s.size 0 e)) = nc at hnc
        generalize harr : (s.data.map fun b => Value.int .u8 b.toNat) ++ Array.replicate (nc - s.size) (.int .u8 0) = arr
        have hasz : arr.size = nc := by
          rw [← harr]
          have : s.data.size = s.size := rfl
          simp
          omega
        have hlist : ∀ (i : Nat) (v : AV), (bytesAV s.data.toList)[i]? = some v → arr[i]? = some (ren ρ v) := by
          intro i v hv
          rw [bytesAV, List.getElem?_map] at hv
          cases hg : s.data.toList[i]? with
          | none => simp [hg] at hv
          | some c =>
            simp [hg] at hv
            subst hv
            rw [← harr]
            have hlt := (List.getElem?_eq_some_iff.1 hg).1
            rw [Array.length_toList] at hlt
            rw [Array.getElem?_append_left (by simpa using hlt)]
            rw [Array.getElem?_toList] at hg
            simp [hg, ren]
        have hbd : ∀ v ∈ (bytesAV s.data.toList), v.bd H.next := by
          intro v hv
          obtain ⟨c, _, rfl⟩ := List.mem_map.1 hv
          simp [AV.bd]
        have hlen : (bytesAV s.data.toList).length ≤ arr.size := by
          have : s.data.size = s.size := rfl
          simp [bytesAV]
          omega
        -- the block, with its mark behind the end
        let w1 : World := (w.drew.alloc (.cells arr e)).freeze ⟨w.heap.size, arr.size, none⟩ 1
        have hw1 : w1.heap.size = w.heap.size + 1 ∧ (∀ k, k < w.heap.size → w1.heap[k]? = w.heap[k]?) ∧ w1.heap[w.heap.size]? = some (.cells arr e (arr.size, arr.size + 1)) ∧ w1.os = w.os ∧ w1.tape = w.tape ∧ w1.output = w.output := by
          obtain ⟨f1, f2, f3, f4, f5, f6⟩ := alloc_facts w.drew (.cells arr e)
          have hd1 : w.drew.heap = w.heap := rfl
          rw [hd1] at f1 f2 f3
          refine ⟨?_, ?_, ?_, rfl, rfl, rfl⟩
          · show (World.freeze _ _ _).heap.size = _
            simp [World.freeze, f1]
          · intro k hk
            show (World.freeze _ _ _).heap[k]? = _
            simp only [World.freeze, Nat.one_ne_zero, if_false, Array.getElem?_modify]
            rw [if_neg (by omega), f2 k hk]
          · show (World.freeze _ _ _).heap[w.heap.size]? = _
            simp only [World.freeze, Nat.one_ne_zero, if_false, Array.getElem?_modify, if_true]
            rw [f3]
            simp
        obtain ⟨g1, g2, g3, g4, g5, g6⟩ := hw1
        refine ⟨_, w1, ?_, Sim.new (o := .row (bytesAV s.data.toList) .no e) arr.size h rfl hbd g1 g2 ⟨arr, _, g3, rfl, .inr (Nat.le_refl _), (fun hf => absurd rfl hf), (fun hf => by cases hf), hlen, fun i v hv => ?_⟩ g4 g5 g6, by simp [AV.bd]⟩
        · have hconv : (convert src dst (ren ρ (.str s))).run P w = (Conv.stringToBytes e s).run P w := by simp [convert, run_und hs, run_und hd, ren, run_und he]
          rw [hconv]
          have hshape : (w.drew.alloc (.cells arr e)).shape? w.heap.size = some (e, arr.size) := by
            obtain ⟨f1, f2, f3, f4, f5, f6⟩ := alloc_facts w.drew (.cells arr e)
            have hd1 : w.drew.heap = w.heap := rfl
            rw [hd1] at f3
            unfold World.shape?
            rw [f3]
          simp only [Conv.stringToBytes, Sem.run_bind, run_choose, hforced, Bool.false_eq_true, if_false, hcap, Result.andThen_ok, newRow_run, World.drew_eq]
          rw [harr]
          simp [newRow_run, markStringish, hshape, ren, add_base, w1, hasz]
        · rw [ren_ext (Env.set_ext _ _ _ _ _) v (hbd v (List.mem_of_getElem? hv))]
          exact .inr (hlist i v hv)
      · cases hx
    · cases hx
  · rename_i e hs hd
    simp only [Option.map_eq_some_iff, Prod.mk.injEq] at hx
    obtain ⟨s, hs2, hx1, hx2⟩ := hx
    subst hx1 hx2
    exact ⟨ρ, w, by rw [bytesStrA_sound h hs hd hs2]; simp [ren], Sim.refl h, by simp [AV.bd]⟩
  · rename_i e0 e id off len c hs hd
    split at hx
    · rename_i cs f e' he hg
      split at hx
      · rename_i hsd
        injection hx with hx
        injection hx with hx1 hx2
        subst hx1 hx2 hsd
        obtain ⟨blk, e1, e2, arr, fr, e3, e4, e5, e6, e6', e7, e8⟩ := h.own id _ hg rfl
        have hw : (markStringish ((⟨blk, 0, none⟩ : Addr).add off)).run P w = .ok () (w.freeze ⟨blk, arr.size, none⟩ 1) := by
          have hs : w.shape? blk = some (e', arr.size) := by simp [World.shape?, e3]
          simp [markStringish, add_block, hs]
        have hf1 : (w.freeze ⟨blk, arr.size, none⟩ 1).heap.size = w.heap.size := by simp [World.freeze]
        have hf2 : ∀ k, k ≠ blk → (w.freeze ⟨blk, arr.size, none⟩ 1).heap[k]? = w.heap[k]? := by
          intro k hk
          simp only [World.freeze, Nat.one_ne_zero, if_false, Array.getElem?_modify]
          rw [if_neg (fun e => hk e.symm)]
        have hf3 : (w.freeze ⟨blk, arr.size, none⟩ 1).heap[blk]? = some (.cells arr e' (if fr.1 == fr.2 then (arr.size, arr.size + 1) else (min fr.1 arr.size, max fr.2 (arr.size + 1)))) := by
          simp [World.freeze, Array.getElem?_modify, e3]
        have hor : ORel ρ (w.freeze ⟨blk, arr.size, none⟩ 1) blk (ρ.rs id) (.row cs f.mark e') := by
          refine ⟨arr, _, hf3, e4, ?_, ?_, ?_, e7, e8⟩
          · by_cases hfe : fr.1 = fr.2
            · simp [hfe]
            · have := e5.resolve_left hfe
              simp [hfe]
              right
              exact Nat.le_min.2 ⟨this, Nat.le_refl _⟩
          · intro hm
            refine e6 ?_
            rintro rfl
            exact hm rfl
          · intro hm
            cases f <;> cases hm
        refine ⟨ρ, _, ?_, Sim.write h hg rfl e1 rfl (show AObj.bd H.next (.row cs f e') from h.bd id _ hg) hor hf1 hf2 rfl rfl rfl, by simpa [AV.bd] using hb⟩
        cases c <;> simp [convert, run_und hd, run_und he, ren, e1, hw]
      · cases hx
    · cases hx
  · cases hx

/-! ### Maps -/
theorem keyA_kind {t : TypeId} {k : PK} (h : keyA P t = some k) : KindT P t k := by
  unfold keyA at h
  split at h
  · rename_i kk hu; injection h with h; subst h; exact ⟨kk, hu⟩
  · rename_i hu; injection h with h; subst h; exact hu
  · rename_i hu; injection h with h; subst h; exact hu
  · cases h
theorem checkKey_run {ρ : Env} {t : TypeId} {k : PK} {v u : AV} {r : Bool} {w : World} {e : Bool} (h : KindT P t k) : (Instr.checkKey e 10000 t (ren ρ v)).run P w = .ok () w := by
  rw [show (10000 : Nat) = 9999 + 1 from rfl]
  generalize (9999 : Nat) = d
  cases k with
  | b => simp [Instr.checkKey, run_und (show P.underlying t = some .bool from h)]
  | i => obtain ⟨kk, hu⟩ := h; simp [Instr.checkKey, run_und hu]
  | s => simp [Instr.checkKey, run_und (show P.underlying t = some .string from h)]
theorem sameNow_of {ρ : Env} {t : TypeId} {k : PK} {d : TypeDesc} {a b : AV} {r : Bool} (h : KindT P t k) (hu : P.underlying t = some d) (he : eqPlain k a b = some r) : Instr.sameNow d (ren ρ a) (ren ρ b) = some r := by
  cases k with
  | b =>
    have : d = .bool := by rw [show P.underlying t = some .bool from h] at hu; injection hu with hu; exact hu.symm
    subst this
    cases a <;> cases b <;> simp only [eqPlain] at he <;> first
      | (injection he with he; subst he; simp [ren, Instr.sameNow])
      | cases he
  | i =>
    obtain ⟨kk, h⟩ := h
    have : d = .int kk := by rw [h] at hu; injection hu with hu; exact hu.symm
    subst this
    cases a <;> cases b <;> simp only [eqPlain] at he <;> first
      | (split at he
         · rename_i hk; injection he with he; subst he hk; simp [ren, Instr.sameNow]
         · cases he)
      | cases he
  | s =>
    have : d = .string := by rw [show P.underlying t = some .string from h] at hu; injection hu with hu; exact hu.symm
    subst this
    cases a <;> cases b <;> simp only [eqPlain] at he <;> first
      | (injection he with he; subst he; simp only [ren, Instr.sameNow, beq_toListBytes, toList_data])
      | cases he
/-- The entries of a map, as the model has them. -/
def Ents (ρ : Env) (es : List (AV × AV)) (l : List MapEntry) : Prop := l.map (fun e => (e.key, e.val)) = es.map (fun p => (ren ρ p.1, ren ρ p.2))
theorem findNow_of {ρ : Env} {t : TypeId} {kd : PK} {d : TypeDesc} {k : AV} (h : KindT P t kd) (hu : P.underlying t = some d) : ∀ {es : List (AV × AV)} {l : List MapEntry} {r : Option AV} (i : Nat), findA kd k es = some r → Ents ρ es l →
    ∃ q, Instr.findNow d (ren ρ k) l i = some q ∧ (match r with | some v => ∃ j, q = some (i + j, ren ρ v) ∧ j < es.length | none => q = none)
  | [], l, r, i, hf, he => by
    simp [findA] at hf
    subst hf
    have : l = [] := by simpa [Ents] using he
    subst this
    exact ⟨none, rfl, rfl⟩
  | (a, v) :: es, l, r, i, hf, he => by
    cases l with
    | nil => simp [Ents] at he
    | cons e l =>
      simp only [Ents, List.map_cons, List.cons.injEq, Prod.mk.injEq] at he
      obtain ⟨⟨h1, h2⟩, h3⟩ := he
      simp only [findA] at hf
      simp only [Instr.findNow, h1]
      cases hp : eqPlain kd k a with
      | none => simp [hp] at hf
      | some x =>
        rw [sameNow_of (ρ := ρ) h hu hp]
        cases x with
        | true =>
          simp only [hp] at hf
          injection hf with hf
          subst hf
          exact ⟨_, rfl, 0, by rw [h2]; simp, by simp⟩
        | false =>
          simp only [hp] at hf
          obtain ⟨q, e1, e2⟩ := findNow_of h hu (i + 1) hf h3
          refine ⟨q, e1, ?_⟩
          cases r with
          | none => exact e2
          | some v => obtain ⟨j, e3, e4⟩ := e2; exact ⟨j + 1, by rw [e3]; simp; omega, by simp; omega⟩

theorem entriesA_run {ρ : Env} {H : Heap} {w : World} (h : HRel ρ H w) {x : AV} {es : List (AV × AV)} (hx : entriesA x H = some es) :
    (∀ p ∈ es, p.1.bd H.next ∧ p.2.bd H.next) ∧ ((ren ρ x = .map none ∧ es = []) ∨ ∃ id b ents, x = .mp (some id) ∧ ρ.addr id = some ⟨b, 0, none⟩ ∧ ren ρ x = .map (some b) ∧ w.heap[b]? = some (.map ents ents.size) ∧ Ents ρ es ents.toList ∧ ∀ (i : Nat) (e : MapEntry), ents[i]? = some e → e.born = i) := by
  unfold entriesA at hx
  split at hx
  · injection hx with hx
    subst hx
    exact ⟨by simp, .inl ⟨by simp [ren], rfl⟩⟩
  · rename_i id
    split at hx
    · rename_i es' hg
      injection hx with hx
      subst hx
      obtain ⟨b, e1, e2, ents, e3, e4, e5⟩ := h.own id _ hg rfl
      exact ⟨h.bd id _ hg, .inr ⟨id, b, ents, rfl, e1, by simp [ren, e1], e3, e4, e5⟩⟩
    · rename_i es' hg
      injection hx with hx
      subst hx
      obtain ⟨b, e1, ⟨ents, e3, e4, e5⟩, _⟩ := h.rom id _ hg
      exact ⟨h.bd id _ hg, .inr ⟨id, b, ents, rfl, e1, by simp [ren, e1], e3, e4, e5⟩⟩
    · cases hx
  · cases hx
theorem findKey_run {ρ : Env} {t : TypeId} {kd : PK} {k : AV} {w : World} (h : KindT P t kd) {es : List (AV × AV)} {l : List MapEntry} {r : Option AV} (hf : findA kd k es = some r) (he : Ents ρ es l) :
    ∃ q, (Instr.findKey t (ren ρ k) l).run P w = .ok q w ∧ (match r with | some v => ∃ j, q = some (j, ren ρ v) ∧ j < es.length | none => q = none) := by
  have hu : ∃ d, P.underlying t = some d := by
    cases kd with
    | b => exact ⟨_, h⟩
    | i => obtain ⟨k, h⟩ := h; exact ⟨_, h⟩
    | s => exact ⟨_, h⟩
  obtain ⟨d, hu⟩ := hu
  obtain ⟨q, e1, e2⟩ := findNow_of h hu 0 hf he
  refine ⟨q, ?_, ?_⟩
  · simp [Instr.findKey, run_und hu, e1]
  · cases r with
    | none => exact e2
    | some v => obtain ⟨j, e3, e4⟩ := e2; exact ⟨j, by rw [e3]; simp, e4⟩
theorem findA_mem {kd : PK} {k v : AV} : ∀ {es : List (AV × AV)}, findA kd k es = some (some v) → ∃ p ∈ es, p.2 = v
  | [], h => by simp [findA] at h
  | (a, u) :: es, h => by
    simp only [findA] at h
    split at h
    · injection h with h; injection h with h; exact ⟨_, List.mem_cons_self, h⟩
    · obtain ⟨p, e1, e2⟩ := findA_mem h; exact ⟨p, List.mem_cons_of_mem _ e1, e2⟩
    · cases h

theorem lookupA_sound {ρ : Env} {H : Heap} {w : World} (h : HRel ρ H w) {t : TypeId} {x k v : AV} {ok : Bool} (hx : lookupA P t x k ok H = some v) :
    (Instr.lookup t (ren ρ x) (ren ρ k) ok).run P w = .ok (ren ρ v) w ∧ v.bd H.next := by
  unfold lookupA at hx
  split at hx
  · rename_i kt et hu
    split at hx
    · rename_i kd z es hk hz hes
      have hkt := keyA_kind hk
      obtain ⟨z1, z2⟩ := run_zero (P := P) (ρ := ρ) (w := w) hz
      obtain ⟨hb, hcase⟩ := entriesA_run h hes
      have hck : ∀ e, (Instr.checkKey e 10000 kt (ren ρ k)).run P w = .ok () w := fun e => checkKey_run (v := k) (u := k) (r := true) hkt
      -- the two sources of entries
      have key : ∀ (l : List MapEntry), Ents ρ es l → (∀ q, (Instr.findKey kt (ren ρ k) l).run P w = .ok q w → (Instr.lookup t (ren ρ x) (ren ρ k) ok).run P w = (match q with | some (_, v) => (.ok (v, true) w : Result (Value × Bool)) | none => .ok (ren ρ z, false) w).andThen fun p w' => .ok (if ok then .tuple #[p.1, .bool p.2] else p.1) w') →
          (Instr.lookup t (ren ρ x) (ren ρ k) ok).run P w = .ok (ren ρ v) w ∧ v.bd H.next := by
        intro l hl hrun
        split at hx
        · rename_i v' hf
          injection hx with hx
          obtain ⟨q, e1, e2⟩ := findKey_run (P := P) (w := w) hkt hf hl
          obtain ⟨j, rfl, _⟩ := e2
          obtain ⟨p, p1, p2⟩ := findA_mem hf
          have hv' : v'.bd H.next := by rw [← p2]; exact (hb p p1).2
          rw [hrun _ e1]
          subst hx
          cases ok
          · simp [hv']
          · simp [ren, AV.bd, hv']
        · rename_i hf
          injection hx with hx
          obtain ⟨q, e1, e2⟩ := findKey_run (P := P) (w := w) hkt hf hl
          subst e2
          rw [hrun _ e1]
          subst hx
          cases ok
          · simp [z2]
          · simp [ren, AV.bd, z2]
        · cases hx
      rcases hcase with ⟨e1, e2⟩ | ⟨id, b, ents, e1, e3, e4, e5, e6, e7⟩
      · subst e2
        refine key [] rfl fun q hq => ?_
        rw [e1]
        simp only [Instr.lookup, Sem.run_bind, run_und hu, Result.andThen_ok, Sem.run_pure, hck, Array.toList_empty, hq]
        cases q <;> simp [z1]
      · refine key ents.toList e6 fun q hq => ?_
        rw [e4]
        simp only [Instr.lookup, Sem.run_bind, run_und hu, Result.andThen_ok, Sem.run_pure, run_getObj' e5, hck, hq]
        cases q <;> simp [z1]
    · cases hx
  · cases hx

/-- What an update makes of the entries. -/
theorem updA_of {ρ : Env} {kd : PK} {k v : AV} : ∀ {es es' : List (AV × AV)} {l : List MapEntry}, updA kd k v es = some es' → Ents ρ es l →
    (findA kd k es = some none ∧ es' = es ++ [(k, v)]) ∨ ∃ i a u, findA kd k es = some (some u) ∧ es[i]? = some (a, u) ∧ eqPlain kd k a = some true ∧ es' = es.set i (k, v) ∧ (∀ d, (∀ a b r, eqPlain kd a b = some r → Instr.sameNow d (ren ρ a) (ren ρ b) = some r) → ∀ n, Instr.findNow d (ren ρ k) l n = some (some (n + i, ren ρ u)))
  | [], es', l, h, he => by
    simp [updA] at h
    subst h
    exact .inl ⟨rfl, rfl⟩
  | (a, u) :: es, es', l, h, he => by
    cases l with
    | nil => simp [Ents] at he
    | cons e l =>
      simp only [Ents, List.map_cons, List.cons.injEq, Prod.mk.injEq] at he
      obtain ⟨⟨h1, h2⟩, h3⟩ := he
      simp only [updA] at h
      simp only [findA]
      split at h
      · rename_i hp
        injection h with h
        subst h
        exact .inr ⟨0, a, u, by simp, rfl, hp, rfl, fun d hd n => by simp [Instr.findNow, h1, hd _ _ _ hp, h2]⟩
      · rename_i hp
        cases hu : updA kd k v es with
        | none => simp [hu] at h
        | some es2 =>
          simp [hu] at h
          subst h
          rcases updA_of hu h3 with ⟨f1, f2⟩ | ⟨i, a', u', f1, f2, f3, f4, f5⟩
          · exact .inl ⟨by simp [f1], by rw [f2]; rfl⟩
          · refine .inr ⟨i + 1, a', u', by simp [f1], by simpa using f2, f3, by rw [f4]; rfl, fun d hd n => ?_⟩
            simp only [Instr.findNow, h1, hd _ _ _ hp]
            rw [f5 d hd (n + 1)]
            simp
            omega
      · cases h
theorem sameBits_of {ρ : Env} {kd : PK} {a b : AV} (h : eqPlain kd a b = some true) : Instr.sameBits 10000 (ren ρ b) (ren ρ a) = true := by
  rw [show (10000 : Nat) = 9999 + 1 from rfl]
  generalize (9999 : Nat) = d
  unfold eqPlain at h
  split at h
  · injection h with h; simp at h; subst h; simp [ren, Instr.sameBits]
  · split at h
    · rename_i hk; injection h with h; simp at h; subst h hk; simp [ren, Instr.sameBits]
    · cases h
  · injection h with h
    simp at h
    simp [ren, Instr.sameBits, beq_toListBytes, toList_data, h]
  · cases h

theorem mapUpdateA_sound {ρ : Env} {H H' : Heap} {w : World} (h : HRel ρ H w) {t : TypeId} {x k v : AV} (hkb : k.bd H.next) (hvb : v.bd H.next) (hx : mapUpdateA P t x k v H = some H') :
    ∃ w', (Instr.mapUpdate t (ren ρ x) (ren ρ k) (ren ρ v)).run P w = .ok () w' ∧ Sim ρ H w ρ H' w' := by
  unfold mapUpdateA at hx
  split at hx
  · rename_i kt et id hu
    split at hx
    · rename_i kd es hk hg
      split at hx
      · rename_i es' hupd
        injection hx with hx
        subst hx
        have hkt := keyA_kind hk
        obtain ⟨b, e1, e2, ents, e3, e4, e5⟩ := h.own id _ hg rfl
        have hck : ∀ e, (Instr.checkKey e 10000 kt (ren ρ k)).run P w = .ok () w := fun e => checkKey_run (v := k) (u := k) (r := true) hkt
        have hr : ren ρ (.mp (some id)) = .map (some b) := by simp [ren, e1]
        have hd : ∃ d, P.underlying kt = some d := by
          cases kd with
          | b => exact ⟨_, hkt⟩
          | i => obtain ⟨k, hkt⟩ := hkt; exact ⟨_, hkt⟩
          | s => exact ⟨_, hkt⟩
        obtain ⟨d, hd⟩ := hd
        have hsn : ∀ a b r, eqPlain kd a b = some r → Instr.sameNow d (ren ρ a) (ren ρ b) = some r := fun a b r hp => sameNow_of hkt hd hp
        have hlen : ents.size = es.length := by
          have := congrArg List.length e4
          simpa using this
        have hbe := h.bd id _ hg
        have ents' : ∀ (o : Array MapEntry), Ents ρ es' o.toList → (∀ (i : Nat) (e : MapEntry), o[i]? = some e → e.born = i) → (∀ p ∈ es', p.1.bd H.next ∧ p.2.bd H.next) →
            Sim ρ H w ρ (H.set id (some (.map es'))) { w with heap := w.heap.setIfInBounds b (.map o o.size) } := by
          intro o ho hbo hbd
          obtain ⟨s1, s2, s3⟩ := set_facts w (.map o o.size) e3
          exact Sim.write h hg rfl e1 rfl hbd ⟨o, s3, ho, hbo⟩ s1 s2 rfl rfl rfl
        rcases updA_of hupd e4 with ⟨f1, f2⟩ | ⟨i, a, u, f1, f2, f3, f4, f5⟩
        · obtain ⟨q, g1, g2⟩ := findKey_run (P := P) (w := w) hkt f1 e4
          subst g2
          refine ⟨_, ?_, ents' (ents.push { key := ren ρ k, val := ren ρ v, born := ents.size }) ?_ ?_ ?_⟩
          · rw [hr]
            simp only [Instr.mapUpdate, Sem.run_bind, run_und hu, Result.andThen_ok, run_getObj' e3, hck, g1, run_setObj' e3]
            simp
          · have h4 : ents.toList.map (fun e => (e.key, e.val)) = es.map (fun p => (ren ρ p.1, ren ρ p.2)) := e4
            simp [Ents, f2, h4]
          · intro i e he
            rw [Array.getElem?_push] at he
            split at he
            · rename_i hi; injection he with he; subst he; simpa using hi.symm
            · exact e5 i e he
          · intro p hp
            rw [f2] at hp
            rcases List.mem_append.1 hp with hp | hp
            · exact hbe p hp
            · simp at hp; subst hp; exact ⟨hkb, hvb⟩
        · have g1 : (Instr.findKey kt (ren ρ k) ents.toList).run P w = .ok (some (i, ren ρ u)) w := by
            have := f5 d hsn 0
            simp [Instr.findKey, run_und hd, this]
          have hi : i < es.length := (List.getElem?_eq_some_iff.1 f2).1
          obtain ⟨en, hen⟩ : ∃ en, ents[i]? = some en := ⟨_, Array.getElem?_eq_getElem (by omega)⟩
          have hek : en.key = ren ρ a := by
            have h1 : (ents.toList.map (fun e => (e.key, e.val)))[i]? = (es.map (fun p => (ren ρ p.1, ren ρ p.2)))[i]? := by rw [e4]
            rw [List.getElem?_map, List.getElem?_map, f2, Array.getElem?_toList, hen] at h1
            simp only [Option.map_some] at h1
            injection h1 with h1
            injection h1
          have hks : (Instr.keyThatStays (((ents[i]?).map (·.key)).getD (ren ρ k)) (ren ρ k)).run P w = .ok (ren ρ k) w := by
            rw [hen]
            simp only [Option.map_some, Option.getD_some, hek, Instr.keyThatStays, sameBits_of f3, if_true, Sem.run_pure]
          have hmod : (ents.modify i fun e => { e with key := ren ρ k, val := ren ρ v }).size = ents.size := by simp
          refine ⟨_, ?_, ents' (ents.modify i fun e => { e with key := ren ρ k, val := ren ρ v }) ?_ ?_ ?_⟩
          · rw [hr]
            simp only [Instr.mapUpdate, Sem.run_bind, run_und hu, Result.andThen_ok, run_getObj' e3, hck, g1, hks, run_setObj' e3]
            rw [hmod]
          · have h4 : ents.toList.map (fun e => (e.key, e.val)) = es.map (fun p => (ren ρ p.1, ren ρ p.2)) := e4
            unfold Ents
            apply List.ext_getElem?
            intro j
            rw [f4]
            have hj : (ents.toList.map (fun e => (e.key, e.val)))[j]? = (es.map (fun p => (ren ρ p.1, ren ρ p.2)))[j]? := by rw [h4]
            rw [List.getElem?_map, List.getElem?_map, Array.getElem?_toList] at hj
            rw [List.getElem?_map, List.getElem?_map, Array.getElem?_toList, Array.getElem?_modify, List.getElem?_set]
            by_cases hij : i = j
            · subst hij
              rw [if_pos rfl, if_pos rfl, if_pos hi, hen]
              rfl
            · rw [if_neg hij, if_neg hij]
              exact hj
          · intro j e he
            rw [Array.getElem?_modify] at he
            split at he
            · rename_i hij
              subst hij
              rw [hen] at he
              simp at he
              subst he
              exact e5 i en hen
            · exact e5 j e he
          · intro p hp
            rw [f4] at hp
            rcases List.mem_or_eq_of_mem_set hp with hp | hp
            · exact hbe p hp
            · subst hp; exact ⟨hkb, hvb⟩
      · cases hx
    · cases hx
  · cases hx

end Go.Proofs.YtlcfkeigipkhlaaGreatDoorAbs
