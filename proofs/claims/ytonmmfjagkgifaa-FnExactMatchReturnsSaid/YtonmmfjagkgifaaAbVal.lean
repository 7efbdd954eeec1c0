/- The abstract calculus, third text: operations that look at no memory. -/
import Derived.Test.YtonmmfjagkgifaaAbOps
set_option linter.unusedVariables false
set_option linter.unusedSimpArgs false
namespace Go.Proofs.Ytonmmfjagkgifaa
open Go.RowKit
section
variable {P : Program} {T : Tm}

theorem add_zero_addr (a : Addr) : a.add 0 = a := by simp [Addr.add]

/-- Filling cells with parts. -/
theorem zipIdx_fold (off : Nat) : ∀ (cs : List Value) (k : Nat) (acc : Array Value), off + k + cs.length ≤ acc.size →
    ((cs.zipIdx k).foldl (fun (x : Array Value) (y : Value × Nat) => x.setIfInBounds (off + y.2) y.1) acc).toList = acc.toList.take (off + k) ++ cs ++ acc.toList.drop (off + k + cs.length)
  | [], k, acc, h => by simp
  | c :: cs, k, acc, h => by
    simp only [List.zipIdx_cons, List.foldl_cons]
    simp only [List.length_cons] at h
    rw [zipIdx_fold off cs (k + 1) _ (by simp; omega)]
    have hk : off + k < acc.size := by omega
    simp only [Array.toList_setIfInBounds]
    have e1 : off + (k + 1) = (off + k) + 1 := by omega
    rw [e1]
    rw [List.take_set, List.drop_set_of_lt (by omega)]
    rw [List.take_succ_eq_append_getElem (by simpa using hk)]
    rw [List.set_append_right _ _ (by simp; omega)]
    simp only [List.length_take, Array.length_toList]
    have : min (off + k) acc.size = off + k := by omega
    rw [this]
    simp
    congr 1
    omega
theorem run_fill (pl : Nat → Option (Nat × Nat)) : ∀ (parts : List (Nat × Operand)) (ps : List (Nat × Nat × Operand)) (vs : List (Nat × List Value)) (cells : Array Value) (out : List Value),
    prepParts pl parts = some ps → aparts T ps = some vs → afill cells.toList vs = some out →
    Instr.fill pl cells (parts.map fun p => (p.1, ev T p.2)) = some out.toArray
  | [], ps, vs, cells, out, h1, h2, h3 => by
    simp only [prepParts, Option.some.injEq] at h1
    subst h1
    simp only [aparts, Option.some.injEq] at h2
    subst h2
    simp only [afill, Option.some.injEq] at h3
    subst h3
    simp [Instr.fill]
  | (i, x) :: parts, ps, vs, cells, out, h1, h2, h3 => by
    simp only [prepParts] at h1
    cases hp : pl i with
    | none => simp [hp] at h1
    | some p =>
      obtain ⟨off, size⟩ := p
      simp only [hp, Option.bind_some] at h1
      cases hr : prepParts pl parts with
      | none => simp [hr] at h1
      | some rest =>
        simp only [hr, Option.map_some, Option.some.injEq] at h1
        subst h1
        simp only [aparts] at h2
        split at h2
        · rename_i hsz
          cases hv : aparts T rest with
          | none => simp [hv] at h2
          | some vrest =>
            simp only [hv, Option.map_some, Option.some.injEq] at h2
            subst h2
            simp only [afill] at h3
            split at h3
            · rename_i hle
              simp only [List.map_cons, Instr.fill, hp]
              have hc : ¬ ((ev T x).cells.size ≠ size ∨ cells.size < off + (ev T x).cells.size) := by
                simp only [Array.length_toList] at hle
                omega
              simp only [Bool.or_eq_true, decide_eq_true_eq]
              rw [if_neg (by simpa using hc)]
              apply run_fill pl parts rest vrest _ out hr hv
              have := zipIdx_fold off (ev T x).cells.toList 0 cells (by simpa using hle)
              simp only [Nat.add_zero] at this
              rw [← Array.foldl_toList]
              simp only [Array.toList_zipIdx]
              rw [this]
              exact h3
            · cases h3
        · cases h2

theorem run_bound {x : Option Operand} {most dflt n : Nat} (h : abound T x most dflt = some n) (code : BoundsCode) (w : World) :
    (match x.map (ev T) with
      | some v => Instr.sliceBound v most code
      | none => pure dflt : Sem Nat).run P w = .ok n w := by
  cases x with
  | none => simp [abound] at h; simp [h]
  | some o =>
    simp only [abound] at h
    simp only [Option.map_some]
    generalize ev T o = v at h
    cases v <;> simp at h
    rename_i k i
    obtain ⟨h1, rfl⟩ := h
    simp [Instr.sliceBound, asIntOf, h1]

theorem map_run_value (s : Sem Value) (w : World) (v : Value) (h : s.run P w = .ok v w) : (do pure (Next.value (← s)) : Sem Next).run P w = .ok (.value v) w := by
  simp [h]

theorem val_build {t : TypeId} {parts : Array (Nat × Operand)} {ao : AOp} {v : Value} (h : prepOp P (.build t parts) = some ao) (hv : ao.val T = some v) (w : World) :
    (Instr.build t (parts.map fun p => (p.1, ev T p.2))).run P w = .ok v w := by
  simp only [prepOp] at h
  cases hz : zeroT P t with
  | none => simp [hz] at h
  | some z =>
    simp only [hz, Option.bind_some] at h
    cases hp : prepParts (placeOf P t) parts.toList with
    | none => simp [hp] at h
    | some ps =>
      simp only [hp, Option.bind_some] at h
      obtain ⟨zv, hzr, hzc⟩ := run_zeroT hz w
      have hval : ao = .bld z ps → ∃ vs cs, aparts T ps = some vs ∧ afill z vs = some cs ∧ v = .agg cs.toArray := by
        rintro rfl
        simp only [AOp.val] at hv
        cases h1 : aparts T ps with
        | none => simp [h1] at hv
        | some vs =>
          simp only [h1, Option.bind_some] at hv
          cases h2 : afill z vs with
          | none => simp [h2] at hv
          | some cs => simp only [h2, Option.map_some, Option.some.injEq] at hv; exact ⟨vs, cs, rfl, h2, hv.symm⟩
      cases hu : P.underlying t with
      | none => simp [hu] at h
      | some d =>
        cases d <;> simp only [hu] at h <;> (try (cases h; done))
        case struct fs =>
          split at h
          · rename_i hall
            simp only [Option.some.injEq] at h
            obtain ⟨vs, cs, h1, h2, rfl⟩ := hval h.symm
            have hfs : ∀ (l : List Field), (∀ f ∈ l, (sizeT P f.type).isSome = true) → (l.mapM (fun f => do pure (f.offset, ← sizeOf f.type)) : Sem (List (Nat × Nat))).run P w = .ok (l.map fun f => (f.offset, (sizeT P f.type).getD 0)) w := by
              intro l hl
              induction l with
              | nil => simp
              | cons f l ih =>
                have h0 := hl f (by simp)
                cases hs : sizeT P f.type with
                | none => simp [hs] at h0
                | some s =>
                  simp only [List.mapM_cons, Sem.run_bind, run_sizeT hs, Result.andThen_ok, Sem.run_pure, ih (fun g hg => hl g (by simp [hg])), List.map_cons, hs, Option.getD_some]
            have hm := hfs fs.toList (List.all_eq_true.1 hall)
            simp only [Instr.build, Sem.run_bind, hzr, Result.andThen_ok, run_underlying hu, Array.mapM_eq_mapM_toList, Sem.run_map, hm]
            have hf := run_fill (T := T) (placeOf P t) parts.toList ps vs zv.cells cs hp h1 (by rw [hzc]; exact h2)
            have hpl : (fun i => ((fs.toList.map fun f => (f.offset, (sizeT P f.type).getD 0)).toArray)[i]?) = placeOf P t := by
              funext i
              simp only [placeOf, hu]
              simp only [List.getElem?_toArray, List.getElem?_map]
              cases hi : fs[i]? with
              | none => simp [hi]
              | some f =>
                have hmem : f ∈ fs := Array.mem_of_getElem? hi
                have h0 : (sizeT P f.type).isSome = true := List.all_eq_true.1 hall f (by simpa using hmem)
                cases hs : sizeT P f.type with
                | none => simp [hs] at h0
                | some s => simp [hi, hs]
            simp only [hpl, Array.toList_map, hf]
            simp
          · cases h
        case array n e =>
          cases hs : sizeT P e with
          | none => simp [hs] at h
          | some s =>
            simp only [hs, Option.isSome_some, if_true, Option.some.injEq] at h
            obtain ⟨vs, cs, h1, h2, rfl⟩ := hval h.symm
            have hf := run_fill (T := T) (placeOf P t) parts.toList ps vs zv.cells cs hp h1 (by rw [hzc]; exact h2)
            have hpl : (fun i => some (i * s, s)) = placeOf P t := by funext i; simp [placeOf, hu, hs]
            simp only [Instr.build, Sem.run_bind, hzr, Result.andThen_ok, run_underlying hu, run_sizeT hs]
            simp only [hpl, Array.toList_map, hf]
            simp

theorem val_slice {t : TypeId} {x : Operand} {lo hi mx : Option Operand} {ao : AOp} {v : Value} (h : prepOp P (.slice t x lo hi mx) = some ao) (hv : ao.val T = some v) (w : World) :
    (Instr.sliceAt t (ev T x) (lo.map (ev T)) (hi.map (ev T)) (mx.map (ev T))).run P w = .ok v w := by
  simp only [prepOp] at h
  have arr : ∀ (n e s : Nat), sizeT P e = some s → mx.isSome = false → ao = .slcArr n s x lo hi → ∃ a l hh, ev T x = .pointer (some a) ∧ abound T hi n n = some hh ∧ abound T lo hh 0 = some l ∧
      v = .slice (some (if n = l then a else a.add (l * s))) (hh - l) (n - l) := by
    rintro n e s _ _ rfl
    simp only [AOp.val] at hv
    cases hx : ev T x <;> simp [hx] at hv
    rename_i a
    cases a <;> simp at hv
    rename_i a
    cases h1 : abound T hi n n with
    | none => simp [h1] at hv
    | some hh =>
      simp only [h1, Option.bind_some, Option.map_eq_some_iff] at hv
      obtain ⟨l, h2, rfl⟩ := hv
      exact ⟨a, l, hh, rfl, rfl, h2, rfl⟩
  cases hu : P.underlying t with
  | none => simp [hu] at h
  | some d =>
    cases d <;> simp only [hu] at h <;> (try (cases h; done))
    case slice e =>
      split at h
      · cases h
      · rename_i hmh
        simp only [Option.map_eq_some_iff] at h
        obtain ⟨s, hs, rfl⟩ := h
        simp only [AOp.val] at hv
        cases hx : ev T x <;> simp [hx] at hv
        rename_i a ln cp
        cases h1 : abound T mx cp cp with
        | none => simp [h1] at hv
        | some m =>
          simp only [h1, Option.bind_some] at hv
          cases h2 : abound T hi m ln with
          | none => simp [h2] at hv
          | some hh =>
            simp only [h2, Option.bind_some, Option.map_eq_some_iff] at hv
            obtain ⟨l, h3, rfl⟩ := hv
            have hb : (Instr.sliceBounds true ln cp (lo.map (ev T)) (hi.map (ev T)) (mx.map (ev T))).run P w = .ok (l, hh, m) w := by
              unfold Instr.sliceBounds
              have b1 := run_bound (P := P) h1 (if true then .slice3Acap else .slice3Alen) w
              have b3 := run_bound (P := P) h3 (if mx.isSome then .slice3C else .sliceB) w
              cases mx with
              | none =>
                have hm : m = cp := by simp [abound] at h1; exact h1.symm
                subst hm
                have b2 := run_bound (P := P) h2 .sliceAcap w
                cases hi <;> cases lo <;> simp_all
              | some mm =>
                cases hi with
                | none => simp at hmh
                | some hi =>
                  have b2 := run_bound (P := P) h2 .slice3B w
                  cases lo <;> simp_all
            simp only [Instr.sliceAt, Sem.run_bind, run_underlying hu, Result.andThen_ok, Instr.slice, hb, run_sizeT hs, Sem.run_pure]
    case string =>
      split at h
      · cases h
      · rename_i hmh
        simp only [Option.some.injEq] at h
        subst h
        have hmx : mx = none := by cases mx <;> simp_all
        subst hmx
        simp only [AOp.val] at hv
        cases hx : ev T x <;> simp [hx] at hv
        rename_i s
        cases h2 : abound T hi s.size s.size with
        | none => simp [h2] at hv
        | some hh =>
          simp only [h2, Option.bind_some, Option.map_eq_some_iff] at hv
          obtain ⟨l, h3, rfl⟩ := hv
          have hb : (Instr.sliceBounds false s.size s.size (lo.map (ev T)) (hi.map (ev T)) none).run P w = .ok (l, hh, s.size) w := by
            unfold Instr.sliceBounds
            have b3 := run_bound (P := P) h3 .sliceB w
            have b2 := run_bound (P := P) h2 .sliceAlen w
            cases hi <;> cases lo <;> simp_all
          simp [Instr.sliceAt, run_underlying hu, Instr.slice, hb]
    case array n e =>
      split at h
      · cases h
      · rename_i hmh
        simp only [Option.map_eq_some_iff] at h
        obtain ⟨s, hs, h⟩ := h
        obtain ⟨a, l, hh, hx, h1, h2, rfl⟩ := arr n e s hs (by simpa using hmh) h.symm
        have hmx : mx = none := by cases mx <;> simp_all
        subst hmx
        have hb : (Instr.sliceBounds false n n (lo.map (ev T)) (hi.map (ev T)) none).run P w = .ok (l, hh, n) w := by
          unfold Instr.sliceBounds
          have b3 := run_bound (P := P) h2 .sliceB w
          have b2 := run_bound (P := P) h1 .sliceAlen w
          cases hi <;> cases lo <;> simp_all
        simp [Instr.sliceAt, run_underlying hu, hx, Instr.sureAddr, hb, run_sizeT hs]
    case pointer r =>
      cases hr : P.underlying r with
      | none => simp [hr] at h
      | some dr =>
        cases dr <;> simp only [hr] at h <;> (try (cases h; done))
        rename_i n e
        split at h
        · cases h
        · rename_i hmh
          simp only [Option.map_eq_some_iff] at h
          obtain ⟨s, hs, h⟩ := h
          obtain ⟨a, l, hh, hx, h1, h2, rfl⟩ := arr n e s hs (by simpa using hmh) h.symm
          have hmx : mx = none := by cases mx <;> simp_all
          subst hmx
          have hb : (Instr.sliceBounds false n n (lo.map (ev T)) (hi.map (ev T)) none).run P w = .ok (l, hh, n) w := by
            unfold Instr.sliceBounds
            have b3 := run_bound (P := P) h2 .sliceB w
            have b2 := run_bound (P := P) h1 .sliceAlen w
            cases hi <;> cases lo <;> simp_all
          simp [Instr.sliceAt, Instr.slice, run_underlying hu, run_underlying hr, hx, asAddr, hb, run_sizeT hs]
end
end Go.Proofs.Ytonmmfjagkgifaa
