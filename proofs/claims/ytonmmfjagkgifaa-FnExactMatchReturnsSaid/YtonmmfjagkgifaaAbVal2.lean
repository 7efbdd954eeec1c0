/- The abstract calculus, fourth text: operations that look at no memory: all of them. -/
import Derived.Test.YtonmmfjagkgifaaAbVal
set_option linter.unusedVariables false
set_option linter.unusedSimpArgs false
namespace Go.Proofs.Ytonmmfjagkgifaa
open Go.RowKit
section
variable {P : Program} {T : Tm}

theorem run_eqGuard_int (op : BinOp) (t : TypeId) (x y : Operand) (a b : Value) (ha : ∀ c, a ≠ .agg c) (hn : a ≠ .nilIface) (w : World) : (eqGuard op t x y a b).run P w = .ok () w := by
  unfold eqGuard
  cases op <;> simp
  all_goals
    cases a <;> cases b <;> simp_all
theorem abin_shape {op : BinOp} {x y v : Value} (h : abin op x y = some v) : (∀ c, x ≠ .agg c) ∧ x ≠ .nilIface := by
  unfold abin at h
  split at h <;> simp_all

theorem run_eqNil {t : TypeId} {d : TypeDesc} {nk : NK} {xv cv : Value} {b : Bool} (hu : P.underlying t = some d)
    (hd : nkOf d = some nk)
    (hb : isNil nk xv = some b) (hcv : isNil nk cv = some true) (w : World) (k : Nat) : (Op.equalIn (k + 1) t xv cv).run P w = .ok b w := by
  cases d <;> simp [nkOf] at hd <;> subst hd <;> cases xv <;> simp [isNil] at hb <;> cases cv <;> simp [isNil] at hcv <;> (try subst hcv)
  case pointer.pointer.pointer e a => cases a <;> simp [Op.equalIn, run_underlying hu, ← hb]
  case slice.slice.slice e a _ _ _ _ => cases a <;> simp [Op.equalIn, run_underlying hu, ← hb]
  case map.map.map k e a => cases a <;> simp [Op.equalIn, run_underlying hu, ← hb]
  all_goals simp [Op.equalIn, run_underlying hu, ← hb]
theorem val_bin {op : BinOp} {t u : TypeId} {x y : Operand} {ao : AOp} {v : Value} (h : prepBin P op t x y = some ao) (hv : ao.val T = some v) (w : World) :
    (do eqGuard op t x y (ev T x) (ev T y); binOp op t (ev T x) (ev T y) : Sem Value).run P w = .ok v w := by
  have bin : ao = .bin op x y → (do eqGuard op t x y (ev T x) (ev T y); binOp op t (ev T x) (ev T y) : Sem Value).run P w = .ok v w := by
    rintro rfl
    simp only [AOp.val] at hv
    obtain ⟨h1, h2⟩ := abin_shape hv
    simp [run_eqGuard_int op t x y _ _ h1 h2 w, run_abin hv]
  have nil : ∀ (neg : Bool) (nk : NK) (d : TypeDesc) (cv : Value), P.underlying t = some d → y = .const cv → isNil nk cv = some true → ao = .eqNil neg nk x → (op = if neg then BinOp.neq else BinOp.eql) →
      nkOf d = some nk →
      (do eqGuard op t x y (ev T x) (ev T y); binOp op t (ev T x) (ev T y) : Sem Value).run P w = .ok v w := by
    rintro neg nk d cv hu rfl hcv rfl rfl hd
    simp only [AOp.val, Option.map_eq_some_iff] at hv
    obtain ⟨b, hb, rfl⟩ := hv
    have hcv' : ev T (.const cv) = cv := rfl
    rw [hcv']
    generalize ev T x = xv at hb
    have hg : (eqGuard (if neg then BinOp.neq else BinOp.eql) t x (.const cv) xv cv).run P w = .ok () w := by
      apply run_eqGuard_int <;> intros <;> rintro rfl <;> simp [isNil] at hb
    have he : (Op.equal t xv cv).run P w = .ok b w := by
      have h1 : Op.maxDepth = 9999 + 1 := rfl
      unfold Op.equal
      rw [h1]
      exact run_eqNil hu hd hb hcv w 9999
    have hbin : (binOp (if neg then BinOp.neq else BinOp.eql) t xv cv).run P w = .ok (.bool (if neg then !b else b)) w := by
      have hx : (∀ k n, xv ≠ .int k n) ∧ (∀ k n, xv ≠ .float k n) ∧ (∀ k n m, xv ≠ .complex k n m) ∧ (∀ s, xv ≠ .string s) := by
        refine ⟨?_, ?_, ?_, ?_⟩ <;> intros <;> rintro rfl <;> simp [isNil] at hb
      obtain ⟨x1, x2, x3, x4⟩ := hx
      cases neg <;> simp only [Bool.false_eq_true, if_false, if_true] <;> (cases xv <;> simp_all [binOp])
    simp only [Sem.run_bind, hg, Result.andThen_ok, hbin]
  unfold prepBin at h
  have boolc : ∀ neg, P.underlying t = some .bool → ao = .eqB neg x y → (op = if neg then BinOp.neq else BinOp.eql) → (do eqGuard op t x y (ev T x) (ev T y); binOp op t (ev T x) (ev T y) : Sem Value).run P w = .ok v w := by
    rintro neg hu rfl rfl
    simp only [AOp.val] at hv
    cases hx : ev T x <;> simp [hx] at hv
    cases hy : ev T y <;> simp [hy] at hv
    subst hv
    rename_i a b
    have hg := run_eqGuard_int (P := P) (if neg then BinOp.neq else BinOp.eql) t x y (.bool a) (.bool b) (by simp) (by simp) w
    simp only [Sem.run_bind, hg, Result.andThen_ok]
    have h1 : Op.maxDepth = 9999 + 1 := rfl
    cases neg <;> simp [binOp, Op.equal, h1, run_equalIn_bool' w 9999 t a b hu]
  split at h
  · simp only [Option.some.injEq] at h; exact bin h.symm
  · simp only [Option.some.injEq] at h; exact bin h.symm
  · rename_i hu; simp only [Option.some.injEq] at h; exact boolc false hu h.symm rfl
  · rename_i hu; simp only [Option.some.injEq] at h; exact boolc true hu h.symm rfl
  · rename_i op1 op2 od d p1 p2 p3 p4 hu
    cases hd : nkOf d with
    | none => simp [hd] at h
    | some nk =>
      cases y with
      | const cv =>
        cases op1 <;> simp only [hd] at h <;> (try (cases h; done))
        · split at h
          · rename_i hn; simp only [Option.some.injEq] at h; exact nil false nk d cv hu rfl hn h.symm rfl hd
          · cases h
        · split at h
          · rename_i hn; simp only [Option.some.injEq] at h; exact nil true nk d cv hu rfl hn h.symm rfl hd
          · cases h
      | _ => simp [hd] at h
  · cases h

theorem val_eqAgg {op : BinOp} {t : TypeId} {x y : Operand} {ao : AOp} {v : Value} {sk : SK} {s : Nat} (neg : Bool) (hop : op = if neg then BinOp.neq else BinOp.eql) (hg : P.eqGuardType P.depth t = false) (hp : plainT P sk 100 t = true) (hs : sizeT P t = some s)
    (hg2 : aggT P t = some true) (hv : (AOp.eqAgg neg sk s x y).val T = some v) (w : World) : (do eqGuard op t x y (ev T x) (ev T y); binOp op t (ev T x) (ev T y) : Sem Value).run P w = .ok v w := by
  simp only [AOp.val] at hv
  cases hx : ev T x <;> simp only [hx] at hv <;> (try (cases hv; done))
  cases hy : ev T y <;> simp only [hy] at hv <;> (try (cases hv; done))
  rename_i xs ys
  split at hv
  case isFalse => cases hv
  rename_i h12
  obtain ⟨h1, h2⟩ := h12
  simp only [Option.map_eq_some_iff] at hv
  obtain ⟨b, hb, rfl⟩ := hv
  have he := eqIn_plain (P := P) 100 t true s xs.toList ys.toList b w 10000 hp hg2 hs (by simpa using h1) (by simpa using h2) hb (by omega)
  simp only [partOf, if_true] at he
  subst hop
  simp only [Sem.run_bind, run_eqGuard_agg w _ t x y xs ys hg, Result.andThen_ok]
  cases neg
  · simp only [Bool.false_eq_true, if_false]
    rw [run_eql_struct]
    simp [he]
  · simp only [if_true]
    rw [run_neq_struct]
    simp [he]

theorem val_call {c : Call} {ao : AOp} {v : Value} {ty : TypeId} (h : prepCall P c = some ao) (hv : ao.val T = some v) (w : World) :
    (do let d ← resolve (ev T) c ty; invoke d.target d.args : Sem Next).run P w = .ok (.value v) w := by
  obtain ⟨callee, args, argTypes⟩ := c
  simp only [prepCall] at h
  cases callee with
  | value f => simp only [Option.some.injEq] at h; subst h; simp [AOp.val] at hv
  | invoke r m => cases h
  | builtin b =>
    simp only at h
    obtain ⟨args⟩ := args
    obtain ⟨argTypes⟩ := argTypes
    split at h
    · rename_i x t h1 h2
      subst h1 h2
      cases hu : P.underlying t with
      | none => simp [hu] at h
      | some d =>
        cases d <;> simp only [hu] at h <;> (try (cases h; done)) <;> simp only [Option.some.injEq] at h <;> subst h <;> simp only [AOp.val] at hv <;> cases hx : ev T x <;> simp [hx] at hv <;> subst hv <;>
          simp [resolve, invoke, builtin, Builtin.len_, run_underlying hu, hx, goInt]
    · rename_i x t h1 h2
      subst h1 h2
      cases hu : P.underlying t with
      | none => simp [hu] at h
      | some d =>
        cases d <;> simp only [hu] at h <;> (try (cases h; done)) <;> simp only [Option.some.injEq] at h <;> subst h <;> simp only [AOp.val] at hv <;> cases hx : ev T x <;> simp [hx] at hv <;> subst hv <;>
          simp [resolve, invoke, builtin, Builtin.cap_, run_underlying hu, hx, goInt]
    · rename_i tl x y h1
      subst h1
      simp only [Option.some.injEq] at h
      subst h
      simp only [AOp.val] at hv
      cases hx : ev T x <;> simp only [hx] at hv <;> (try (cases hv; done))
      cases hy : ev T y <;> simp only [hy] at hv <;> (try (cases hv; done))
      simp only [Option.some.injEq] at hv
      subst hv
      simp [resolve, invoke, builtin, Builtin.min_, Builtin.min2, hx, hy]
    · rename_i tl x y h1
      subst h1
      simp only [Option.some.injEq] at h
      subst h
      simp only [AOp.val] at hv
      cases hx : ev T x <;> simp only [hx] at hv <;> (try (cases hv; done))
      cases hy : ev T y <;> simp only [hy] at hv <;> (try (cases hv; done))
      simp only [Option.some.injEq] at hv
      subst hv
      simp [resolve, invoke, builtin, Builtin.max_, Builtin.max2, hx, hy]
    · exfalso
      split at h
      · split at h
        · simp only [Option.bind_eq_some_iff] at h
          obtain ⟨i, _, z, _, h⟩ := h
          split at h
          · simp only [Option.some.injEq] at h
            subst h
            simp [AOp.val] at hv
          · cases h
        · cases h
      · cases h
    · cases h

theorem val_sound {o : Oper} {ao : AOp} {v : Value} (h : prepOp P o.op = some ao) (hv : ao.val T = some v) (w : World) : (execOp (ev T) o).run P w = .ok (.value v) w := by
  obtain ⟨dst, op, ty, pos, after, guard⟩ := o
  simp only at h
  unfold execOp
  simp only
  cases op
  case move x => simp only [prepOp, Option.some.injEq] at h; subst h; simp only [AOp.val, Option.some.injEq] at hv; simp [hv]
  case assign x => simp only [prepOp, Option.some.injEq] at h; subst h; simp only [AOp.val, Option.some.injEq] at hv; simp [hv]
  case pick c a b =>
    simp only [prepOp, Option.some.injEq] at h; subst h; simp only [AOp.val] at hv
    cases hc : ev T c <;> simp only [hc] at hv <;> (try (cases hv; done))
    simp only [Option.some.injEq] at hv
    simp only [hc, asBool, Sem.run_bind, Sem.run_pure, Result.andThen_ok, hv]
  case alloc e => simp only [prepOp, Option.map_eq_some_iff] at h; obtain ⟨z, _, rfl⟩ := h; simp [AOp.val] at hv
  case box e x => simp only [prepOp, Option.some.injEq] at h; subst h; simp [AOp.val] at hv
  case build t parts => exact map_run_value _ w v (val_build h hv w)
  case buildSlice t n parts =>
    simp only [prepOp] at h
    split at h
    · simp only [Option.bind_eq_some_iff] at h
      obtain ⟨i, _, z, _, h⟩ := h
      split at h
      · simp only [Option.map_eq_some_iff] at h
        obtain ⟨ps, _, rfl⟩ := h
        simp [AOp.val] at hv
      · cases h
    · cases h
  case load t x =>
    simp only [prepOp, Option.bind_eq_some_iff] at h
    obtain ⟨g, _, s, _, h⟩ := h
    split at h
    · simp only [Option.some.injEq] at h; subst h; simp [AOp.val] at hv
    · cases h
  case store t a x => simp only [prepOp, Option.map_eq_some_iff] at h; obtain ⟨z, _, rfl⟩ := h; simp [AOp.val] at hv
  case nilCheck x =>
    simp only [prepOp, Option.some.injEq] at h; subst h; simp only [AOp.val] at hv
    split at hv
    · rename_i a hx; simp only [Option.some.injEq] at hv; subst hv; simp [hx]
    · rename_i f first cp hx; simp only [Option.some.injEq] at hv; subst hv; simp [hx]
    · cases hv
  case binOp op t x y u =>
    refine map_run_value _ w v ?_
    have hb : prepBin P op t x y = some ao → (do eqGuard op t x y (ev T x) (ev T y); binOp op t (ev T x) (ev T y) : Sem Value).run P w = .ok v w := fun hb => val_bin (u := u) hb hv w
    have hagg : aggT P t = some true → (if P.eqGuardType P.depth t then none else
      (if plainT P .int 100 t then some SK.int else if plainT P .bool 100 t then some SK.bool else if plainT P .str 100 t then some SK.str else none).bind fun sk =>
      (sizeT P t).bind fun s => (match op with | .eql => some (AOp.eqAgg false sk s x y) | .neq => some (AOp.eqAgg true sk s x y) | _ => none)) = some ao → (do eqGuard op t x y (ev T x) (ev T y); binOp op t (ev T x) (ev T y) : Sem Value).run P w = .ok v w := by
      intro hg2 h
      split at h
      · cases h
      · rename_i hg
        simp only [Option.bind_eq_some_iff] at h
        obtain ⟨sk, hsk, s, hs, h⟩ := h
        have hp : plainT P sk 100 t = true := by
          split at hsk
          · simp only [Option.some.injEq] at hsk; subst hsk; assumption
          · split at hsk
            · simp only [Option.some.injEq] at hsk; subst hsk; assumption
            · split at hsk
              · simp only [Option.some.injEq] at hsk; subst hsk; assumption
              · cases hsk
        cases op <;> simp only at h <;> (try (cases h; done))
        · simp only [Option.some.injEq] at h; subst h; exact val_eqAgg (ao := .mv x) false rfl (by simpa using hg) hp hs hg2 hv w
        · simp only [Option.some.injEq] at h; subst h; exact val_eqAgg (ao := .mv x) true rfl (by simpa using hg) hp hs hg2 hv w
    simp only [prepOp] at h
    split at h
    · rename_i hu; exact hagg (by simp [aggT, hu]) h
    · rename_i hu; exact hagg (by simp [aggT, hu]) h
    · exact hb h
  case unOp op t x =>
    simp only [prepOp, Option.some.injEq] at h; subst h; simp only [AOp.val] at hv
    split at hv
    · rename_i hx; simp only [Option.some.injEq] at hv; subst hv; simp [hx, Op.unary, Op.intArith]
    · rename_i hx; simp only [Option.some.injEq] at hv; subst hv; simp [hx, Op.unary, (run_intBits _ _ _ w).2.2.1]
    · rename_i hx; simp only [Option.some.injEq] at hv; subst hv; simp [hx, Op.unary]
    · cases hv
  case convert s d x =>
    simp only [prepOp] at h
    split at h
    · rename_i k' k hs hu
      simp only [Option.some.injEq] at h; subst h; simp only [AOp.val] at hv
      cases hx : ev T x <;> simp only [hx] at hv <;> (try (cases hv; done))
      simp only [Option.some.injEq] at hv; subst hv
      refine map_run_value _ w _ ?_
      rw [hx]
      simp only [convert, Sem.run_bind, run_underlying hs, run_underlying hu, Result.andThen_ok, Conv.intToInt, Sem.run_pure]
    · cases h
  case makeFunc fn first cp =>
    simp only [prepOp, Option.some.injEq] at h; subst h; simp only [AOp.val, Option.some.injEq] at hv; subst hv
    refine map_run_value _ w _ ?_
    simp only [Instr.makeFunc, Sem.run_pure]
    congr 2 <;> apply Array.ext' <;> simp
  case makeSlice t l c =>
    simp only [prepOp] at h
    split at h
    · simp only [Option.bind_eq_some_iff] at h
      obtain ⟨i, _, z, _, h⟩ := h
      split at h
      · simp only [Option.some.injEq] at h; subst h; simp [AOp.val] at hv
      · cases h
    · cases h
  case slice t x lo hi mx => exact map_run_value _ w v (val_slice h hv w)
  case fieldAddr t x j =>
    refine map_run_value _ w v ?_
    simp only [prepOp] at h
    split at h
    · rename_i fs hu
      simp only [Option.bind_eq_some_iff] at h
      obtain ⟨f, hf, s, hs, h⟩ := h
      split at h
      · cases h
      · rename_i hs0
        simp only [Option.some.injEq] at h; subst h; simp only [AOp.val] at hv
        split at hv
        · rename_i a hx
          simp only [Option.some.injEq] at hv; subst hv
          simp [Instr.fieldAt, run_underlying hu, hf, hx, Instr.sureAddr, fieldPlace, run_sizeT hs, hs0]
        · cases hv
    · cases h
  case field t x j =>
    refine map_run_value _ w v ?_
    simp only [prepOp] at h
    split at h
    · rename_i fs hu
      simp only [Option.bind_eq_some_iff] at h
      obtain ⟨f, hf, g, hg, s, hs, h⟩ := h
      split at h
      · rename_i h1
        simp only [Option.some.injEq] at h; subst h; simp only [AOp.val] at hv
        cases hx : ev T x <;> simp only [hx] at hv <;> (try (cases hv; done))
        rename_i cs
        simp only [Instr.field, Sem.run_bind, run_underlying hu, Result.andThen_ok, hf, hx, asAgg, Sem.run_pure]
        exact run_part hg hs h1 hv w
      · cases h
    · cases h
  case indexAddr t x i =>
    refine map_run_value _ w v ?_
    simp only [prepOp] at h
    split at h
    · rename_i e hu
      simp only [Option.map_eq_some_iff] at h
      obtain ⟨s, hs, rfl⟩ := h
      simp only [AOp.val] at hv
      split at hv
      · rename_i a n c k j hx hj
        split at hv
        · rename_i hb
          simp only [Option.some.injEq] at hv; subst hv
          simp [Instr.indexAt, hj, asIntOf, run_underlying hu, hx, hb, run_sizeT hs]
        · cases hv
      · cases hv
    · rename_i n e hu
      simp only [Option.map_eq_some_iff] at h
      obtain ⟨s, hs, rfl⟩ := h
      simp only [AOp.val] at hv
      split at hv
      · rename_i a k j hx hj
        split at hv
        · rename_i hb
          simp only [Option.some.injEq] at hv; subst hv
          simp [Instr.indexAt, hj, asIntOf, run_underlying hu, hx, Instr.sureAddr, hb, run_sizeT hs]
        · cases hv
      · cases hv
    · cases h
  case index t x i =>
    refine map_run_value _ w v ?_
    simp only [prepOp] at h
    split at h
    · rename_i n e hu
      simp only [Option.bind_eq_some_iff] at h
      obtain ⟨g, hg, s, hs, h⟩ := h
      split at h
      · rename_i h1
        simp only [Option.some.injEq] at h; subst h; simp only [AOp.val] at hv
        split at hv
        · rename_i cs k j hx hj
          split at hv
          · rename_i hb
            simp only [Instr.index, hj, asIntOf, Sem.run_bind, Sem.run_pure, Result.andThen_ok, run_underlying hu, hx, hb, and_self, if_true, run_sizeT hs]
            exact run_part hg hs h1 hv w
          · cases hv
        · cases hv
      · cases h
    · rename_i hu
      simp only [Option.some.injEq] at h; subst h; simp only [AOp.val] at hv
      split at hv
      · rename_i st k j hx hj
        split at hv
        · rename_i hb
          simp only [Option.map_eq_some_iff] at hv
          obtain ⟨b, hb2, rfl⟩ := hv
          simp [Instr.index, hj, asIntOf, run_underlying hu, hx, hb, hb2]
        · cases hv
      · cases hv
    · cases h
  case extract x j =>
    refine map_run_value _ w v ?_
    simp only [prepOp, Option.some.injEq] at h; subst h; simp only [AOp.val] at hv
    split at hv
    · rename_i vs hx
      simp [Instr.extract, hx, hv]
    · cases hv
  case call c => exact val_call h hv w
  all_goals (simp only [prepOp] at h; cases h)
end
end Go.Proofs.Ytonmmfjagkgifaa
